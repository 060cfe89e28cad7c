/- The program's reader of bytes: several parts, several entries. -/
import Derived.Test.YtengciicdnkgaaaGreatDoorRdE
namespace Go.Proofs.YtengciicdnkgaaaGreatDoor
open Go.RowKit

def appR {α : Type} (l : List α) (o : Option (List α × List UInt8)) : Option (List α × List UInt8) := o.map (fun q => (l ++ q.1, q.2))
theorem manyR_step {α : Type} {rd : List UInt8 → Option (α × List UInt8)} {n : Nat} {s : List UInt8} (hn : 0 < n) : manyR rd n s = match rd s with | none => none | some (x, s1) => appR [x] (manyR rd (n - 1) s1) := by
  obtain ⟨m, rfl⟩ : ∃ m, n = m + 1 := ⟨n - 1, by omega⟩
  rw [manyR, Nat.add_sub_cancel]
  cases rd s with
  | none => rfl
  | some q =>
    obtain ⟨x, s1⟩ := q
    simp only
    cases manyR rd m s1 with
    | none => rfl
    | some q => rfl
theorem appR_app {α : Type} (l m : List α) (o : Option (List α × List UInt8)) : appR l (appR m o) = appR (l ++ m) o := by
  cases o <;> simp [appR]
/-- What a loop of readings knows behind its first ones. -/
def SevP {α : Type} (rd : List UInt8 → Option (α × List UInt8)) (n : Nat) (s1 : List UInt8) (ok1 : Bool) (k : Nat) (l : List α) (sk : List UInt8) (okk : Bool) : Prop :=
  (ok1 = false → okk = false) ∧ (ok1 = true → if okk = true then manyR rd n s1 = appR l (manyR rd (n - k) sk) else manyR rd n s1 = none)
theorem SevP.start {α : Type} (rd : List UInt8 → Option (α × List UInt8)) (n : Nat) (s1 : List UInt8) (ok1 : Bool) : SevP rd n s1 ok1 0 [] s1 ok1 := by
  refine ⟨fun h => h, fun h => ?_⟩
  rw [if_pos h]
  cases manyR rd n s1 with
  | none => rfl
  | some q => rfl
theorem SevP.next {α : Type} {rd : List UInt8 → Option (α × List UInt8)} {n : Nat} {s1 : List UInt8} {ok1 : Bool} {k : Nat} {l : List α} {sk : List UInt8} {x : α} {s' : List UInt8} {ok' : Bool} (h : SevP rd n s1 ok1 k l sk true) (hk : k < n) (hp : RdP (rd sk) true x s' ok') : SevP rd n s1 ok1 (k + 1) (l ++ [x]) s' ok' := by
  refine ⟨fun e => ?_, fun e => ?_⟩
  · have := h.1 e; cases this
  · have h1 := h.2 e
    rw [if_pos rfl, manyR_step (n := n - k) (s := sk) (by omega)] at h1
    have h2 := hp.2 rfl
    cases hr : rd sk with
    | none =>
      rw [hr] at h1 h2
      rw [show ok' = false from h2, if_neg (by simp)]
      exact h1
    | some q =>
      obtain ⟨x', s2⟩ := q
      rw [hr] at h1 h2
      obtain ⟨e2, rfl, rfl⟩ := (show ok' = true ∧ x = x' ∧ s' = s2 from h2)
      rw [if_pos e2, h1, appR_app]
      rfl
theorem SevP.end_ {α : Type} {rd : List UInt8 → Option (α × List UInt8)} {n : Nat} {s s1 : List UInt8} {ok ok1 : Bool} {k : Nat} {l : List α} {sk : List UInt8} {okk : Bool} (hn : RdP (numR 1024 s) ok n s1 ok1) (h : SevP rd n s1 ok1 k l sk okk) (hk : okk = false ∨ n ≤ k) : RdP (listR rd s) ok l sk okk := by
  refine ⟨fun e => h.1 (hn.1 e), fun e => ?_⟩
  have h1 := hn.2 e
  have hd : listR rd s = match numR 1024 s with | none => none | some (n, s1) => manyR rd n s1 := rfl
  rw [hd]
  cases hq : numR 1024 s with
  | none => rw [hq] at h1; exact h.1 h1
  | some q =>
    obtain ⟨n', s1'⟩ := q
    rw [hq] at h1
    obtain ⟨e1, rfl, rfl⟩ := (show ok1 = true ∧ n = n' ∧ s1 = s1' from h1)
    have h2 := h.2 e1
    simp only
    cases okk with
    | false => rw [if_neg (by simp)] at h2; rw [h2]
    | true =>
      rw [if_pos rfl] at h2
      have hnk : n ≤ k := hk.resolve_left (by simp)
      rw [show n - k = 0 by omega] at h2
      rw [h2]
      show true = true ∧ l = l ++ [] ∧ sk = sk
      exact ⟨rfl, by simp, rfl⟩
def SevPost {α : Type} (f : α → List Value) (rd : List UInt8 → Option (α × List UInt8)) (g : Nat) (s : List UInt8) (ok : Bool) (w : World) (e : Ending) (w' : World) : Prop :=
  ∃ (v : Value) (l : List α) (s' : List UInt8) (ok' : Bool), e = .returned v ∧ Row f w' v l ∧ (∀ j, v.ownBlock = some j → w.heap.size ≤ j) ∧ RdAt w' g s' ok' ∧ Gro g w w' ∧ s'.length ≤ s.length ∧ RdP (listR rd s) ok l s' ok'
theorem RdP.num {m n : Nat} {s s1 : List UInt8} {ok ok1 : Bool} (h : RdP (numR m s) ok n s1 ok1) (h1 : ok1 = true) : n ≤ m := by
  cases ok with
  | false => rw [h.1 rfl] at h1; cases h1
  | true =>
    have h2 := h.2 rfl
    cases hq : numR m s with
    | none => rw [hq] at h2; rw [show ok1 = false from h2] at h1; cases h1
    | some q =>
      obtain ⟨n', s'⟩ := q
      rw [hq] at h2
      obtain ⟨_, rfl, rfl⟩ := (show ok1 = true ∧ n = n' ∧ s1 = s' from h2)
      exact (numR_some hq).2
theorem SevP.was {α : Type} {rd : List UInt8 → Option (α × List UInt8)} {n : Nat} {s1 : List UInt8} {ok1 : Bool} {k : Nat} {l : List α} {sk : List UInt8} (h : SevP rd n s1 ok1 k l sk true) : ok1 = true := by
  cases ok1 with
  | true => rfl
  | false => exact absurd (h.1 rfl) (by simp)

set_option maxHeartbeats 4000000 in
set_option maxRecDepth 100000 in
theorem severalP_walk (g : Nat) (s : List UInt8) (ok : Bool) (w : World) (h : RdAt w g s ok) (hs : s.length ≤ 1100000) :
    Calls Tryz.prog 78 #[.pointer (some ⟨g, 0, none⟩), .func (.func 79) #[.pointer (some ⟨g, 0, none⟩)] #[]] w (SevPost prtC partR g s ok w) := by
  obtain ⟨i0, hi, hz0, hz1, hz2⟩ := info_parts infoPrt
  have hgl : g < w.heap.size := by obtain ⟨_, h1, _⟩ := h; exact heap_lt h1
  have CN := number_walk g 1024 s ok w h hs (by omega)
  go_enter Tryz.func78, Tryz.ntmps78
  go_wp2_with fail
  refine CN.mono ?_
  rintro e w1 ⟨n, s1, ok1, rfl, hr1, hg1, hl1, hp1⟩
  have HP1 := Lib.hid hp1
  clear CN hp1
  go_wp2
  go_loopw [5, 8] (fun v i wr => ∃ (k : Nat) (l : List Prt) (sk : List UInt8) (okk : Bool), i = .int .i64 k ∧ k ≤ n ∧ l.length = k ∧ wr.ownsRow w.heap.size 77 2 v l.length (l.flatMap prtC) ∧ RdAt wr g sk okk ∧ Gro g w wr ∧ sk.length ≤ s.length ∧ SevP partR n s1 ok1 k l sk okk) (fun _ i _ => n - (intOf i).toNat)
  case atStart => exact ⟨0, [], s1, ok1, rfl, Nat.zero_le _, rfl, World.ownsRow_nil _ _ _ _, hr1, hg1, hl1, SevP.start _ _ _ _⟩
  case round =>
    obtain ⟨k, l, sk, okk, rfl, hk, hlk, hown, hrk, hgk, hlsk, hsp⟩ := hrel
    have HOWN := Lib.hid hown
    have HRK := Lib.hid hrk
    have HGK := Lib.hid hgk
    have HSP := Lib.hid hsp
    have HLK := Lib.hid hlk
    by_cases h1 : k < n
    · have h1' : (k : Int) < (n : Int) := by omega
      obtain ⟨ev, hb, hev⟩ := id hrk
      obtain ⟨⟨z0, z1⟩, -, -⟩ := box2 hb
      clear hb
      rcases hev with ⟨hok, rfl⟩ | ⟨hok, b, rfl⟩
      · have CR := part_walk g sk okk wr hrk (by omega)
        subst hok
        have hn4 := RdP.num HP1.out (SevP.was hsp)
        clear hown hgk hsp hlk
        go_wp2_with fail
        refine CR.mono ?_
        rintro e w2 ⟨x, s2, ok2, rfl, hr2, hg2, hl2, hp2⟩
        have hown2 := gro_own HOWN.out hg2 hgl
        have HR2 := Lib.hid hr2
        have HG2 := Lib.hid (World.grownBy.trans HGK.out hg2)
        have HP2 := Lib.hid hp2
        have hwl : w.heap.size ≤ w2.heap.size := HG2.out.size
        obtain ⟨key, sz⟩ := x
        clear CR z0 z1 hr2 hg2 hp2 hrk
        go_wp2_with (at_builtin; refine wpList_append_own _ rfl _ _ 51 rfl w.heap.size 77 i0 (.agg #[.string ⟨#[]⟩, .int .i64 0]) 2 24 Tryz.underlying51 hi hz0 hz1 hz2 rfl (by decide) _ _ _ rfl (hown2.alloc _) ⟨w2.heap.size, 0, none⟩ 1 1 (prtC (key, sz)) rfl rfl (new_cells _ _ _ _) (by intro u hu; exact prt2_one (key, sz) u hu) (by unfold maxLen; have := HLK.out; omega) (by have := HLK.out; omega) (by simp; omega) ?_)
        intro v' w3 hown3 hgrow _
        have hgB : ∀ j, u5.ownBlock = some j → w.heap.size ≤ j := fun j hj => (HOWN.out.lt j hj).1
        have HG3 := Lib.hid (World.grownBy.andThen (gro_chain HG2.out ((Below.refl _ _).alloc (Nat.le_refl _) (.cells (prtC (key, sz)).toArray 77))) hgrow (fun j hj => .inl (hgB j hj)))
        have HR3 := Lib.hid (show RdAt w3 g s2 ok2 by
          obtain ⟨ev3, e1, e2⟩ := HR2.out
          refine ⟨ev3, (hgrow.block g (by have := heap_lt e1; simp; omega) (fun e => by have := hgB g e.symm; omega)).trans ?_, e2⟩
          exact (((Below.refl w2.heap.size w2).alloc (Nat.le_refl _) _).block g (heap_lt e1)).trans e1)
        have HO3 := Lib.hid (show w3.ownsRow w.heap.size 77 2 v' (l ++ [(key, sz)]).length ((l ++ [(key, sz)]).flatMap prtC) by simpa [List.flatMap_append] using hown3)
        have HS3 := Lib.hid (SevP.next HSP.out h1 HP2.out)
        clear hown3 hgrow hown2 hgB
        go_wp2
        go_roundw
        case rel => exact ⟨k + 1, l ++ [(key, sz)], s2, ok2, by go_num, by omega, by rw [List.length_append, HLK.out]; rfl, HO3.out, HR3.out, HG3.out, by omega, HS3.out⟩
        case measure => simp [intOf]; omega
      · clear hown hrk hgk hsp hlk
        go_wp2
        go_ret
        exact ⟨_, l, sk, okk, rfl, Row.of_ownsK (K := 2) (f := prtC) (fun _ => rfl) HOWN.out, fun j hj => (HOWN.out.lt j hj).1, HRK.out, HGK.out, hlsk, SevP.end_ HP1.out HSP.out (.inl hok)⟩
    · have h1' : ¬ (k : Int) < (n : Int) := by omega
      clear hown hrk hgk hsp hlk
      go_wp2
      go_ret
      exact ⟨_, l, sk, okk, rfl, Row.of_ownsK (K := 2) (f := prtC) (fun _ => rfl) HOWN.out, fun j hj => (HOWN.out.lt j hj).1, HRK.out, HGK.out, hlsk, SevP.end_ HP1.out HSP.out (.inr (by omega))⟩

set_option maxHeartbeats 4000000 in
set_option maxRecDepth 100000 in
theorem severalE_walk (g : Nat) (s : List UInt8) (ok : Bool) (w : World) (h : RdAt w g s ok) (hs : s.length ≤ 1100000) :
    Calls Tryz.prog 80 #[.pointer (some ⟨g, 0, none⟩), .func (.func 81) #[.pointer (some ⟨g, 0, none⟩)] #[]] w (SevPost entC entR g s ok w) := by
  obtain ⟨i0, hi, hz0, hz1, hz2⟩ := info_parts infoEnt
  have hgl : g < w.heap.size := by obtain ⟨_, h1, _⟩ := h; exact heap_lt h1
  have CN := number_walk g 1024 s ok w h hs (by omega)
  go_enter Tryz.func80, Tryz.ntmps80
  go_wp2_with fail
  refine CN.mono ?_
  rintro e w1 ⟨n, s1, ok1, rfl, hr1, hg1, hl1, hp1⟩
  have HP1 := Lib.hid hp1
  clear CN hp1
  go_wp2
  go_loopw [5, 8] (fun v i wr => ∃ (k : Nat) (l : List Ent) (sk : List UInt8) (okk : Bool), i = .int .i64 k ∧ k ≤ n ∧ l.length = k ∧ wr.ownsRow w.heap.size 81 4 v l.length (l.flatMap entC) ∧ RdAt wr g sk okk ∧ Gro g w wr ∧ sk.length ≤ s.length ∧ SevP entR n s1 ok1 k l sk okk) (fun _ i _ => n - (intOf i).toNat)
  case atStart => exact ⟨0, [], s1, ok1, rfl, Nat.zero_le _, rfl, World.ownsRow_nil _ _ _ _, hr1, hg1, hl1, SevP.start _ _ _ _⟩
  case round =>
    obtain ⟨k, l, sk, okk, rfl, hk, hlk, hown, hrk, hgk, hlsk, hsp⟩ := hrel
    have HOWN := Lib.hid hown
    have HRK := Lib.hid hrk
    have HGK := Lib.hid hgk
    have HSP := Lib.hid hsp
    have HLK := Lib.hid hlk
    by_cases h1 : k < n
    · have h1' : (k : Int) < (n : Int) := by omega
      obtain ⟨ev, hb, hev⟩ := id hrk
      obtain ⟨⟨z0, z1⟩, -, -⟩ := box2 hb
      clear hb
      rcases hev with ⟨hok, rfl⟩ | ⟨hok, b, rfl⟩
      · have CR := entry_walk g sk okk wr hrk (by omega)
        subst hok
        have hn4 := RdP.num HP1.out (SevP.was hsp)
        clear hown hgk hsp hlk
        go_wp2_with fail
        refine CR.mono ?_
        rintro e w2 ⟨x, s2, ok2, rfl, hr2, hg2, hl2, hp2⟩
        have hown2 := gro_own HOWN.out hg2 hgl
        have HR2 := Lib.hid hr2
        have HG2 := Lib.hid (World.grownBy.trans HGK.out hg2)
        have HP2 := Lib.hid hp2
        have hwl : w.heap.size ≤ w2.heap.size := HG2.out.size
        obtain ⟨nm, kd, ex, key⟩ := x
        clear CR z0 z1 hr2 hg2 hp2 hrk
        go_wp2_with (at_builtin; refine wpList_append_own _ rfl _ _ 52 rfl w.heap.size 81 i0 (.agg #[.string ⟨#[]⟩, .int .i64 0, .bool false, .string ⟨#[]⟩]) 4 48 Tryz.underlying52 hi hz0 hz1 hz2 rfl (by decide) _ _ _ rfl (hown2.alloc _) ⟨w2.heap.size, 0, none⟩ 1 1 (entC (nm, kd, ex, key)) rfl rfl (new_cells4 _ _ _ _ _ _) (by intro u hu; exact ent4_one (nm, kd, ex, key) u hu) (by unfold maxLen; have := HLK.out; omega) (by have := HLK.out; omega) (by simp; omega) ?_)
        intro v' w3 hown3 hgrow _
        have hgB : ∀ j, u5.ownBlock = some j → w.heap.size ≤ j := fun j hj => (HOWN.out.lt j hj).1
        have HG3 := Lib.hid (World.grownBy.andThen (gro_chain HG2.out ((Below.refl _ _).alloc (Nat.le_refl _) (.cells (entC (nm, kd, ex, key)).toArray 81))) hgrow (fun j hj => .inl (hgB j hj)))
        have HR3 := Lib.hid (show RdAt w3 g s2 ok2 by
          obtain ⟨ev3, e1, e2⟩ := HR2.out
          refine ⟨ev3, (hgrow.block g (by have := heap_lt e1; simp; omega) (fun e => by have := hgB g e.symm; omega)).trans ?_, e2⟩
          exact (((Below.refl w2.heap.size w2).alloc (Nat.le_refl _) _).block g (heap_lt e1)).trans e1)
        have HO3 := Lib.hid (show w3.ownsRow w.heap.size 81 4 v' (l ++ [(nm, kd, ex, key)]).length ((l ++ [(nm, kd, ex, key)]).flatMap entC) by simpa [List.flatMap_append] using hown3)
        have HS3 := Lib.hid (SevP.next HSP.out h1 HP2.out)
        clear hown3 hgrow hown2 hgB
        go_wp2
        go_roundw
        case rel => exact ⟨k + 1, l ++ [(nm, kd, ex, key)], s2, ok2, by go_num, by omega, by rw [List.length_append, HLK.out]; rfl, HO3.out, HR3.out, HG3.out, by omega, HS3.out⟩
        case measure => simp [intOf]; omega
      · clear hown hrk hgk hsp hlk
        go_wp2
        go_ret
        exact ⟨_, l, sk, okk, rfl, Row.of_ownsK (K := 4) (f := entC) (fun _ => rfl) HOWN.out, fun j hj => (HOWN.out.lt j hj).1, HRK.out, HGK.out, hlsk, SevP.end_ HP1.out HSP.out (.inl hok)⟩
    · have h1' : ¬ (k : Int) < (n : Int) := by omega
      clear hown hrk hgk hsp hlk
      go_wp2
      go_ret
      exact ⟨_, l, sk, okk, rfl, Row.of_ownsK (K := 4) (f := entC) (fun _ => rfl) HOWN.out, fun j hj => (HOWN.out.lt j hj).1, HRK.out, HGK.out, hlsk, SevP.end_ HP1.out HSP.out (.inr (by omega))⟩
end Go.Proofs.YtengciicdnkgaaaGreatDoor
