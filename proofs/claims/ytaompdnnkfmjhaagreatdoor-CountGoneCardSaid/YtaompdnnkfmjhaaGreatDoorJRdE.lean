/- The program's reader of bytes: an entry. The program's reader of bytes: several parts, several entries. slices.IndexFunc and slices.ContainsFunc, at silo/api.Part; the closure by its contract. slices.IndexFunc and slices.ContainsFunc, at silo/api.Entry; the closure by its contract. -/
import Derived.Test.YtaompdnnkfmjhaaGreatDoorJPTText
import Derived.Test.YtaompdnnkfmjhaaGreatDoorJRowG
import Derived.Test.YtaompdnnkfmjhaaGreatDoorJCList
namespace Go.Proofs.YtaompdnnkfmjhaaGreatDoor
open Go.RowKit

theorem u8_and4 : ∀ n : Fin 256, bits .and .u8 ((n.val : Nat) : Int) 4 = ((4 * (n.val / 4 % 2) : Nat) : Int) := by decide +kernel
theorem u8_andNot4 : ∀ n : Fin 256, bits .andNot .u8 ((n.val : Nat) : Int) 4 = ((n.val - 4 * (n.val / 4 % 2) : Nat) : Int) := by decide +kernel
theorem gro_other {g b : Nat} {w W : World} (h : Gro g w W) (hb : w.heap.size ≤ b) (o : Nat) (v : Value) : Gro g w (W.setCell ⟨b, o, none⟩ v) :=
  ⟨h.os, h.tape, h.output, by simpa using h.size, fun k hk hne => (Below.heap_setCell _ _ _ _ (show k ≠ b by omega)).trans (h.block k hk hne)⟩
theorem rd_other {g b : Nat} {w : World} {s : List UInt8} {ok : Bool} (h : RdAt w g s ok) (hb : g ≠ b) (o : Nat) (v : Value) : RdAt (w.setCell ⟨b, o, none⟩ v) g s ok := by
  obtain ⟨ev, h1, h2⟩ := h
  exact ⟨ev, (Below.heap_setCell _ _ _ _ hb).trans h1, h2⟩

set_option maxHeartbeats 4000000 in
set_option maxRecDepth 100000 in
theorem entry_walk (g : Nat) (s : List UInt8) (ok : Bool) (w : World) (h : RdAt w g s ok) (hs : s.length ≤ 1100000) :
    Calls Tryz.prog 103 #[.pointer (some ⟨g, 0, none⟩)] w (RdPost EntV g (entR s) s ok w) := by
  obtain ⟨w1, hw1, hb1, hz1⟩ : ∃ w1, w1 = w.alloc (.cells #[.string ⟨#[]⟩, .int .i64 0, .bool false, .string ⟨#[]⟩] 82) ∧ Below w.heap.size w w1 ∧ w1.heap[w.heap.size]? = some (.cells #[.string ⟨#[]⟩, .int .i64 0, .bool false, .string ⟨#[]⟩] 82 (0, 0)) :=
    ⟨_, rfl, (Below.refl _ _).alloc (Nat.le_refl _) _, heap_alloc_new _ _⟩
  have hgl : g < w.heap.size := by obtain ⟨_, h1, _⟩ := h; exact heap_lt h1
  have C1 := text_walk g s ok w1 (h.below hb1) hs
  have HG1 := Lib.hid (gro_of (g := g) hb1)
  clear hb1
  go_enter Tryz.func103, Tryz.ntmps103
  go_upto_region 1 with fail
  rw [← hw1]
  clear hw1
  go_wp2_with fail
  refine C1.mono ?_
  rintro e w2 ⟨t, s1, ok1, rfl, hr2, hg2, hl2, hp2⟩
  have hz2 := (hg2.block _ (heap_lt hz1) (by simp; omega)).trans hz1
  have HG2 := Lib.hid (World.grownBy.trans HG1.out hg2)
  have HP2 := Lib.hid hp2
  have C2 := kind_walk g s1 ok1 w2 hr2 (by omega)
  clear C1 hr2 hp2 hg2 hz1
  go_wp2_with fail
  refine C2.mono ?_
  rintro e w3 ⟨c, s2, ok2, rfl, hr3, hg3, hl3, hp3⟩
  have hz3 := (hg3.block _ (heap_lt hz2) (by simp; omega)).trans hz2
  have HG3 := Lib.hid (World.grownBy.trans HG2.out hg3)
  have HP3 := Lib.hid hp3
  have C3 := cut_walk g 32 s2 ok2 w3 hr3 (by omega) (by omega)
  clear C2 hr3 hp3 hg3 hz2
  obtain ⟨A, hA⟩ : ∃ A, 4 * (c.toNat / 4 % 2) = A := ⟨_, rfl⟩
  have ha := u8_and4 ⟨c.toNat, c.toNat_lt⟩
  have hn := u8_andNot4 ⟨c.toNat, c.toNat_lt⟩
  simp only [hA] at ha hn
  have hx : ((A : Int) != 0) = execB c := by
    unfold execB
    rw [Bool.eq_iff_iff, bne_iff_ne, beq_iff_eq]; omega
  have hkb : ((c.toNat - A : Nat) : Int) = (kindB c : Nat) := by rw [← hA]; rfl
  rw [hkb] at hn
  have hkw : IntKind.i64.wrap (kindB c : Int) = (kindB c : Int) := by
    rw [IntKind.wrap_i64]; have := c.toNat_lt; unfold kindB; omega
  have HKE := Lib.hid (fun (q : Nat) (x : Bool) (h1 : kindB c = q) (h2 : execB c = x) => (⟨h1, h2⟩ : kindB c = q ∧ execB c = x))
  obtain ⟨kb, hkbq⟩ : ∃ kb, kindB c = kb := ⟨_, rfl⟩
  obtain ⟨xb, hxbq⟩ : ∃ xb, execB c = xb := ⟨_, rfl⟩
  have HKB := Lib.hid hkbq
  have HXB := Lib.hid hxbq
  rw [hkbq] at hn hkw
  rw [hxbq] at hx
  clear hkbq hxbq hkb HKE hA
  go_wp2_with fail
  refine C3.mono ?_
  rintro e w4 ⟨k, s3, ok3, rfl, hr4, hg4, hl4, hp4⟩
  have hz4 := (hg4.block _ (heap_lt hz3) (by simp; omega)).trans hz3
  have HG4 := Lib.hid (World.grownBy.trans HG3.out hg4)
  have HP4 := Lib.hid hp4
  obtain ⟨⟨z0, z1, z2, z3⟩, ⟨f0, f1, f2, f3⟩, ⟨q0, q1, q2, q3⟩⟩ := box4 hz4
  obtain ⟨w5, hw5, hz5, hr5, hg5⟩ : ∃ w5, w5 = (((w4.setCell ⟨w.heap.size, 0, none⟩ (S t)).setCell ⟨w.heap.size, 1, none⟩ (.int .i64 (kb : Int))).setCell ⟨w.heap.size, 2, none⟩ (.bool xb)).setCell ⟨w.heap.size, 3, none⟩ (S k) ∧ w5.heap[w.heap.size]? = some (.cells #[S t, .int .i64 (kb : Int), .bool xb, S k] 82 (0, 0)) ∧ RdAt w5 g s3 ok3 ∧ Gro g w w5 :=
    ⟨_, rfl, heap_set_cell (heap_set_cell (heap_set_cell (heap_set_cell hz4 _) _) _) _, rd_other (rd_other (rd_other (rd_other hr4 (by omega) _ _) (by omega) _ _) (by omega) _ _) (by omega) _ _,
      gro_other (gro_other (gro_other (gro_other HG4.out (Nat.le_refl _) _ _) (Nat.le_refl _) _ _) (Nat.le_refl _) _ _) (Nat.le_refl _) _ _⟩
  have HR5 := Lib.hid hr5
  have HG5 := Lib.hid hg5
  have HW5 := Lib.hid hw5
  clear C3 hr4 hp4 hg4 hz3 hr5 hg5 hw5
  go_wp2
  rw [← HW5.out]
  obtain ⟨⟨x0, x1, x2, x3⟩, -, -⟩ := box4 hz5
  refine bodyPost_ret (v := EntV (t, (kb : Int), xb, k)) (by simp [results, Tryz.results103, go_sem, x0, x1, x2, x3]) rfl ?_
  refine ⟨(t, (kb : Int), xb, k), s3, ok3, rfl, HR5.out, HG5.out, by omega, fun e => HP4.out.1 (HP3.out.1 (HP2.out.1 e)), fun e => ?_⟩
  have h1 := HP2.out.2 e
  rw [entR_of]
  cases hq : textR s with
  | none => rw [hq] at h1; exact HP4.out.1 (HP3.out.1 h1)
  | some q =>
    obtain ⟨qa, qs⟩ := q
    rw [hq] at h1
    obtain ⟨e1, rfl, rfl⟩ := (show ok1 = true ∧ t = qa ∧ s1 = qs from h1)
    have h2 := HP3.out.2 e1
    simp only
    cases s1 with
    | nil => exact HP4.out.1 h2
    | cons c' s1 =>
      obtain ⟨e2, rfl, rfl⟩ := (show ok2 = true ∧ c = c' ∧ s2 = s1 from h2)
      have h3 := HP4.out.2 e2
      simp only
      cases hq2 : cutR 32 s2 with
      | none => rw [hq2] at h3; exact h3
      | some q2 =>
        obtain ⟨qn, qr⟩ := q2
        rw [hq2] at h3
        obtain ⟨e3, rfl, rfl⟩ := (show ok3 = true ∧ k = qn ∧ s3 = qr from h3)
        exact ⟨e3, by rw [HKB.out, HXB.out], rfl⟩
end Go.Proofs.YtaompdnnkfmjhaaGreatDoor

namespace Go.Proofs.YtaompdnnkfmjhaaGreatDoor
open Go.RowKit
def SevPost {α : Type} (f : α → List Value) (rd : List UInt8 → Option (α × List UInt8)) (g : Nat) (s : List UInt8) (ok : Bool) (w : World) (e : Ending) (w' : World) : Prop :=
  ∃ (v : Value) (l : List α) (s' : List UInt8) (ok' : Bool), e = .returned v ∧ Row f w' v l ∧ (∀ j, v.ownBlock = some j → w.heap.size ≤ j) ∧ RdAt w' g s' ok' ∧ Gro g w w' ∧ s'.length ≤ s.length ∧ RdP (listR rd s) ok l s' ok'
theorem RdP.num {m n : Nat} {s s1 : List UInt8} {ok ok1 : Bool} (h : RdP (numR m s) ok n s1 ok1) (h1 : ok1 = true) : n ≤ m := by
  cases ok with
  | false => rw [h.1 rfl] at h1; cases h1
  | true =>
    have h2 := h.2 rfl
    cases hq : numR m s with
    | none => rw [hq] at h2; rw [show ok1 = false from h2] at h1; cases h1
    | some q =>
      obtain ⟨n', s'⟩ := q
      rw [hq] at h2
      obtain ⟨_, rfl, rfl⟩ := (show ok1 = true ∧ n = n' ∧ s1 = s' from h2)
      exact (numR_some hq).2
theorem SevP.was {α : Type} {rd : List UInt8 → Option (α × List UInt8)} {n : Nat} {s1 : List UInt8} {ok1 : Bool} {k : Nat} {l : List α} {sk : List UInt8} (h : SevP rd n s1 ok1 k l sk true) : ok1 = true := by
  cases ok1 with
  | true => rfl
  | false => exact absurd (h.1 rfl) (by simp)

set_option maxHeartbeats 4000000 in
set_option maxRecDepth 100000 in
theorem severalP_walk (g : Nat) (s : List UInt8) (ok : Bool) (w : World) (h : RdAt w g s ok) (hs : s.length ≤ 1100000) :
    Calls Tryz.prog 100 #[.pointer (some ⟨g, 0, none⟩), .func (.func 101) #[.pointer (some ⟨g, 0, none⟩)] #[]] w (SevPost prtC partR g s ok w) := by
  obtain ⟨i0, hi, hz0, hz1, hz2⟩ := info_parts infoPrt
  have hgl : g < w.heap.size := by obtain ⟨_, h1, _⟩ := h; exact heap_lt h1
  have CN := number_walk g 1024 s ok w h hs (by omega)
  go_enter Tryz.func100, Tryz.ntmps100
  go_wp2_with fail
  refine CN.mono ?_
  rintro e w1 ⟨n, s1, ok1, rfl, hr1, hg1, hl1, hp1⟩
  have HP1 := Lib.hid hp1
  clear CN hp1
  go_wp2
  go_loopw [5, 8] (fun v i wr => ∃ (k : Nat) (l : List Prt) (sk : List UInt8) (okk : Bool), i = .int .i64 k ∧ k ≤ n ∧ l.length = k ∧ wr.ownsRow w.heap.size 78 2 v l.length (l.flatMap prtC) ∧ RdAt wr g sk okk ∧ Gro g w wr ∧ sk.length ≤ s.length ∧ SevP partR n s1 ok1 k l sk okk) (fun _ i _ => n - (intOf i).toNat)
  case atStart => exact ⟨0, [], s1, ok1, rfl, Nat.zero_le _, rfl, World.ownsRow_nil _ _ _ _, hr1, hg1, hl1, SevP.start _ _ _ _⟩
  case round =>
    obtain ⟨k, l, sk, okk, rfl, hk, hlk, hown, hrk, hgk, hlsk, hsp⟩ := hrel
    have HOWN := Lib.hid hown
    have HRK := Lib.hid hrk
    have HGK := Lib.hid hgk
    have HSP := Lib.hid hsp
    have HLK := Lib.hid hlk
    by_cases h1 : k < n
    · have h1' : (k : Int) < (n : Int) := by omega
      obtain ⟨ev, hb, hev⟩ := id hrk
      obtain ⟨⟨z0, z1⟩, -, -⟩ := box2 hb
      clear hb
      rcases hev with ⟨hok, rfl⟩ | ⟨hok, b, rfl⟩
      · have CR := part_walk g sk okk wr hrk (by omega)
        subst hok
        have hn4 := RdP.num HP1.out (SevP.was hsp)
        clear hown hgk hsp hlk
        go_wp2_with fail
        refine CR.mono ?_
        rintro e w2 ⟨x, s2, ok2, rfl, hr2, hg2, hl2, hp2⟩
        have hown2 := gro_own HOWN.out hg2 hgl
        have HR2 := Lib.hid hr2
        have HG2 := Lib.hid (World.grownBy.trans HGK.out hg2)
        have HP2 := Lib.hid hp2
        have hwl : w.heap.size ≤ w2.heap.size := HG2.out.size
        obtain ⟨key, sz⟩ := x
        clear CR z0 z1 hr2 hg2 hp2 hrk
        go_wp2_with (at_builtin; refine wpList_append_own _ rfl _ _ 33 rfl w.heap.size 78 i0 (.agg #[.string ⟨#[]⟩, .int .i64 0]) 2 24 Tryz.underlying33 hi hz0 hz1 hz2 rfl (by decide) _ _ _ rfl (hown2.alloc _) ⟨w2.heap.size, 0, none⟩ 1 1 (prtC (key, sz)) rfl rfl (new_cells _ _ _ _) (by intro u hu; exact prt2_one (key, sz) u hu) (by unfold maxLen; have := HLK.out; omega) (by have := HLK.out; omega) (by simp; omega) ?_)
        intro v' w3 hown3 hgrow _
        have hgB : ∀ j, u5.ownBlock = some j → w.heap.size ≤ j := fun j hj => (HOWN.out.lt j hj).1
        have HG3 := Lib.hid (World.grownBy.andThen (gro_chain HG2.out ((Below.refl _ _).alloc (Nat.le_refl _) (.cells (prtC (key, sz)).toArray 78))) hgrow (fun j hj => .inl (hgB j hj)))
        have HR3 := Lib.hid (show RdAt w3 g s2 ok2 by
          obtain ⟨ev3, e1, e2⟩ := HR2.out
          refine ⟨ev3, (hgrow.block g (by have := heap_lt e1; simp; omega) (fun e => by have := hgB g e.symm; omega)).trans ?_, e2⟩
          exact (((Below.refl w2.heap.size w2).alloc (Nat.le_refl _) _).block g (heap_lt e1)).trans e1)
        have HO3 := Lib.hid (show w3.ownsRow w.heap.size 78 2 v' (l ++ [(key, sz)]).length ((l ++ [(key, sz)]).flatMap prtC) by simpa [List.flatMap_append] using hown3)
        have HS3 := Lib.hid (SevP.next HSP.out h1 HP2.out)
        clear hown3 hgrow hown2 hgB
        go_wp2
        go_roundw
        case rel => exact ⟨k + 1, l ++ [(key, sz)], s2, ok2, by go_num, by omega, by rw [List.length_append, HLK.out]; rfl, HO3.out, HR3.out, HG3.out, by omega, HS3.out⟩
        case measure => simp [intOf]; omega
      · clear hown hrk hgk hsp hlk
        go_wp2
        go_ret
        exact ⟨_, l, sk, okk, rfl, Row.of_ownsK (K := 2) (f := prtC) (fun _ => rfl) HOWN.out, fun j hj => (HOWN.out.lt j hj).1, HRK.out, HGK.out, hlsk, SevP.end_ HP1.out HSP.out (.inl hok)⟩
    · have h1' : ¬ (k : Int) < (n : Int) := by omega
      clear hown hrk hgk hsp hlk
      go_wp2
      go_ret
      exact ⟨_, l, sk, okk, rfl, Row.of_ownsK (K := 2) (f := prtC) (fun _ => rfl) HOWN.out, fun j hj => (HOWN.out.lt j hj).1, HRK.out, HGK.out, hlsk, SevP.end_ HP1.out HSP.out (.inr (by omega))⟩

set_option maxHeartbeats 4000000 in
set_option maxRecDepth 100000 in
theorem severalE_walk (g : Nat) (s : List UInt8) (ok : Bool) (w : World) (h : RdAt w g s ok) (hs : s.length ≤ 1100000) :
    Calls Tryz.prog 102 #[.pointer (some ⟨g, 0, none⟩), .func (.func 103) #[.pointer (some ⟨g, 0, none⟩)] #[]] w (SevPost entC entR g s ok w) := by
  obtain ⟨i0, hi, hz0, hz1, hz2⟩ := info_parts infoEnt
  have hgl : g < w.heap.size := by obtain ⟨_, h1, _⟩ := h; exact heap_lt h1
  have CN := number_walk g 1024 s ok w h hs (by omega)
  go_enter Tryz.func102, Tryz.ntmps102
  go_wp2_with fail
  refine CN.mono ?_
  rintro e w1 ⟨n, s1, ok1, rfl, hr1, hg1, hl1, hp1⟩
  have HP1 := Lib.hid hp1
  clear CN hp1
  go_wp2
  go_loopw [5, 8] (fun v i wr => ∃ (k : Nat) (l : List Ent) (sk : List UInt8) (okk : Bool), i = .int .i64 k ∧ k ≤ n ∧ l.length = k ∧ wr.ownsRow w.heap.size 82 4 v l.length (l.flatMap entC) ∧ RdAt wr g sk okk ∧ Gro g w wr ∧ sk.length ≤ s.length ∧ SevP entR n s1 ok1 k l sk okk) (fun _ i _ => n - (intOf i).toNat)
  case atStart => exact ⟨0, [], s1, ok1, rfl, Nat.zero_le _, rfl, World.ownsRow_nil _ _ _ _, hr1, hg1, hl1, SevP.start _ _ _ _⟩
  case round =>
    obtain ⟨k, l, sk, okk, rfl, hk, hlk, hown, hrk, hgk, hlsk, hsp⟩ := hrel
    have HOWN := Lib.hid hown
    have HRK := Lib.hid hrk
    have HGK := Lib.hid hgk
    have HSP := Lib.hid hsp
    have HLK := Lib.hid hlk
    by_cases h1 : k < n
    · have h1' : (k : Int) < (n : Int) := by omega
      obtain ⟨ev, hb, hev⟩ := id hrk
      obtain ⟨⟨z0, z1⟩, -, -⟩ := box2 hb
      clear hb
      rcases hev with ⟨hok, rfl⟩ | ⟨hok, b, rfl⟩
      · have CR := entry_walk g sk okk wr hrk (by omega)
        subst hok
        have hn4 := RdP.num HP1.out (SevP.was hsp)
        clear hown hgk hsp hlk
        go_wp2_with fail
        refine CR.mono ?_
        rintro e w2 ⟨x, s2, ok2, rfl, hr2, hg2, hl2, hp2⟩
        have hown2 := gro_own HOWN.out hg2 hgl
        have HR2 := Lib.hid hr2
        have HG2 := Lib.hid (World.grownBy.trans HGK.out hg2)
        have HP2 := Lib.hid hp2
        have hwl : w.heap.size ≤ w2.heap.size := HG2.out.size
        obtain ⟨nm, kd, ex, key⟩ := x
        clear CR z0 z1 hr2 hg2 hp2 hrk
        go_wp2_with (at_builtin; refine wpList_append_own _ rfl _ _ 34 rfl w.heap.size 82 i0 (.agg #[.string ⟨#[]⟩, .int .i64 0, .bool false, .string ⟨#[]⟩]) 4 48 Tryz.underlying34 hi hz0 hz1 hz2 rfl (by decide) _ _ _ rfl (hown2.alloc _) ⟨w2.heap.size, 0, none⟩ 1 1 (entC (nm, kd, ex, key)) rfl rfl (new_cells4 _ _ _ _ _ _) (by intro u hu; exact ent4_one (nm, kd, ex, key) u hu) (by unfold maxLen; have := HLK.out; omega) (by have := HLK.out; omega) (by simp; omega) ?_)
        intro v' w3 hown3 hgrow _
        have hgB : ∀ j, u5.ownBlock = some j → w.heap.size ≤ j := fun j hj => (HOWN.out.lt j hj).1
        have HG3 := Lib.hid (World.grownBy.andThen (gro_chain HG2.out ((Below.refl _ _).alloc (Nat.le_refl _) (.cells (entC (nm, kd, ex, key)).toArray 82))) hgrow (fun j hj => .inl (hgB j hj)))
        have HR3 := Lib.hid (show RdAt w3 g s2 ok2 by
          obtain ⟨ev3, e1, e2⟩ := HR2.out
          refine ⟨ev3, (hgrow.block g (by have := heap_lt e1; simp; omega) (fun e => by have := hgB g e.symm; omega)).trans ?_, e2⟩
          exact (((Below.refl w2.heap.size w2).alloc (Nat.le_refl _) _).block g (heap_lt e1)).trans e1)
        have HO3 := Lib.hid (show w3.ownsRow w.heap.size 82 4 v' (l ++ [(nm, kd, ex, key)]).length ((l ++ [(nm, kd, ex, key)]).flatMap entC) by simpa [List.flatMap_append] using hown3)
        have HS3 := Lib.hid (SevP.next HSP.out h1 HP2.out)
        clear hown3 hgrow hown2 hgB
        go_wp2
        go_roundw
        case rel => exact ⟨k + 1, l ++ [(nm, kd, ex, key)], s2, ok2, by go_num, by omega, by rw [List.length_append, HLK.out]; rfl, HO3.out, HR3.out, HG3.out, by omega, HS3.out⟩
        case measure => simp [intOf]; omega
      · clear hown hrk hgk hsp hlk
        go_wp2
        go_ret
        exact ⟨_, l, sk, okk, rfl, Row.of_ownsK (K := 4) (f := entC) (fun _ => rfl) HOWN.out, fun j hj => (HOWN.out.lt j hj).1, HRK.out, HGK.out, hlsk, SevP.end_ HP1.out HSP.out (.inl hok)⟩
    · have h1' : ¬ (k : Int) < (n : Int) := by omega
      clear hown hrk hgk hsp hlk
      go_wp2
      go_ret
      exact ⟨_, l, sk, okk, rfl, Row.of_ownsK (K := 4) (f := entC) (fun _ => rfl) HOWN.out, fun j hj => (HOWN.out.lt j hj).1, HRK.out, HGK.out, hlsk, SevP.end_ HP1.out HSP.out (.inr (by omega))⟩
end Go.Proofs.YtaompdnnkfmjhaaGreatDoor

namespace Go.Proofs.YtaompdnnkfmjhaaGreatDoor
open Go.RowKit

set_option maxHeartbeats 2000000 in
set_option maxRecDepth 100000 in
theorem idxPrt_walk (g0 : Nat) (caps : Array Value) (p : Prt → Bool) (a : Option Addr) (c : Nat) (l : List Prt) (w : World) (hr : Row prtC w (.slice a l.length c) l) (hcnt : l.length ≤ 1100000)
    (hen : ∀ args w, (callFunc g0 args).run Tryz.prog w = .ok (.enter g0 args) w)
    (hp : ∀ x ∈ l, ∀ w', Below w.heap.size w w' → Calls Tryz.prog g0 (#[PrtV x] ++ caps) w' fun e w'' => e = .returned (.bool (p x)) ∧ Below w'.heap.size w' w'') :
    Calls Tryz.prog 149 #[.slice a l.length c, .func (.func g0) #[] caps] w fun e w' => e = .returned (.int .i64 (idxP p l)) ∧ Below w.heap.size w w' := by
  obtain ⟨a', c', hv, hc, hm, hx⟩ := hr
  cases hv
  have HX := Lib.hid hx
  have HP := Lib.hid hp
  clear hx hp
  go_enter Tryz.func149, Tryz.ntmps149
  go_wp2
  go_loopw [8] (fun i wr => ∃ k : Nat, k ≤ l.length ∧ i = .int .i64 k ∧ (∀ x ∈ l.take k, p x = false) ∧ Below w.heap.size w wr) (fun i _ => l.length - (intOf i).toNat)
  case atStart => exact ⟨0, Nat.zero_le _, rfl, by simp, Below.refl _ _⟩
  case round =>
    obtain ⟨k, hk, rfl, hall, hB⟩ := hrel
    have HALL := Lib.hid hall
    have HB := Lib.hid hB
    clear hall
    by_cases h1 : k < l.length
    · have hx := HX.out
      rcases hx with hx | ⟨b, o, rfl, hx⟩
      · exfalso; rw [hx] at h1; simp at h1
      have hfacts := prt_cells hx h1
      have HE := Lib.hid (fun h => idxP_at h1 HALL.out h)
      have HN := Lib.hid (fun h => none_step h1 HALL.out h)
      have CL := fun w' h => HP.out l[k] (List.getElem_mem h1) w' h
      clear hx
      generalize l[k] = y at *
      obtain ⟨qb, hqb⟩ : ∃ qb, p y = qb := ⟨_, rfl⟩
      rw [hqb] at CL HE HN
      clear hqb
      obtain ⟨key, sz⟩ := y
      obtain ⟨hx1, hx2⟩ := hfacts
      have hc1 := cell_below hB hx1; have hc2 := cell_below hB hx2; clear hx1 hx2
      have h1' : (k : Int) < (l.length : Int) := by omega
      have CL2 := CL wr hB
      clear hB CL
      cases qb with
      | true =>
        have HF := Lib.hid (HE.out rfl)
        clear HE HN
        go_wp2_with (refine CL2.mono ?_; rintro e w1 ⟨rfl, hb1⟩)
        go_ret
        exact ⟨by rw [HF.out]; rfl, below_chain HB.out hb1 HB.out.size⟩
      | false =>
        have HF := Lib.hid (HN.out rfl)
        clear HE HN
        go_wp2_with (refine CL2.mono ?_; rintro e w1 ⟨rfl, hb1⟩)
        go_roundw
        case rel => exact ⟨k + 1, by omega, by go_num, HF.out, below_chain HB.out hb1 HB.out.size⟩
        case measure => simp [intOf]; omega
    · have h1' : ¬ (k : Int) < (l.length : Int) := by omega
      have HF := Lib.hid (show idxP p l = -1 from idxP_none (by have := HALL.out; rwa [List.take_of_length_le (by omega)] at this))
      go_wp2
      go_ret
      exact ⟨by rw [HF.out]; rfl, HB.out⟩

set_option maxHeartbeats 1100000 in
/-- slices.ContainsFunc: whether one is. -/
theorem hasPrt_walk (g0 : Nat) (caps : Array Value) (p : Prt → Bool) (v : Value) (l : List Prt) (w : World) (hr : Row prtC w v l) (hcnt : l.length ≤ 1100000)
    (hen : ∀ args w, (callFunc g0 args).run Tryz.prog w = .ok (.enter g0 args) w)
    (hp : ∀ x ∈ l, ∀ w', Below w.heap.size w w' → Calls Tryz.prog g0 (#[PrtV x] ++ caps) w' fun e w'' => e = .returned (.bool (p x)) ∧ Below w'.heap.size w' w'') :
    Calls Tryz.prog 129 #[v, .func (.func g0) #[] caps] w fun e w' => e = .returned (.bool (l.any p)) ∧ Below w.heap.size w w' := by
  obtain ⟨a, c, rfl, hc, hm, hx⟩ := hr
  have CI := idxPrt_walk g0 caps p a c l w ⟨a, c, rfl, hc, hm, hx⟩ hcnt hen hp
  clear hx hp hen
  rcases idxP_cases p l with ⟨e1, hall⟩ | ⟨k0, hk0, e1, hall, hpk⟩
  · have HF := Lib.hid (show l.any p = false by rw [List.any_eq_false]; intro x hx; rw [hall x hx]; simp)
    rw [e1] at CI
    clear hall e1
    go_enter Tryz.func129, Tryz.ntmps129
    go_wp2_with (go_at_call 149; refine (CI).mono ?_; rintro e w1 ⟨rfl, hb1⟩)
    go_ret
    exact ⟨by rw [HF.out]; rfl, hb1⟩
  · have HF := Lib.hid (show l.any p = true by rw [List.any_eq_true]; exact ⟨_, List.getElem_mem hk0, hpk⟩)
    rw [e1] at CI
    have hk : (0 : Int) ≤ (k0 : Int) := by omega
    clear hall e1 hpk
    go_enter Tryz.func129, Tryz.ntmps129
    go_wp2_with (go_at_call 149; refine (CI).mono ?_; rintro e w1 ⟨rfl, hb1⟩)
    go_ret
    exact ⟨by rw [HF.out]; rfl, hb1⟩
end Go.Proofs.YtaompdnnkfmjhaaGreatDoor

namespace Go.Proofs.YtaompdnnkfmjhaaGreatDoor
open Go.RowKit

set_option maxHeartbeats 2000000 in
set_option maxRecDepth 100000 in
theorem idxEnt_walk (g0 : Nat) (caps : Array Value) (p : Ent → Bool) (a : Option Addr) (c : Nat) (l : List Ent) (w : World) (hr : Row entC w (.slice a l.length c) l) (hcnt : l.length ≤ 1100000)
    (hen : ∀ args w, (callFunc g0 args).run Tryz.prog w = .ok (.enter g0 args) w)
    (hp : ∀ x ∈ l, ∀ w', Below w.heap.size w w' → Calls Tryz.prog g0 (#[EntV x] ++ caps) w' fun e w'' => e = .returned (.bool (p x)) ∧ Below w'.heap.size w' w'') :
    Calls Tryz.prog 150 #[.slice a l.length c, .func (.func g0) #[] caps] w fun e w' => e = .returned (.int .i64 (idxP p l)) ∧ Below w.heap.size w w' := by
  obtain ⟨a', c', hv, hc, hm, hx⟩ := hr
  cases hv
  have HX := Lib.hid hx
  have HP := Lib.hid hp
  clear hx hp
  go_enter Tryz.func150, Tryz.ntmps150
  go_wp2
  go_loopw [8] (fun i wr => ∃ k : Nat, k ≤ l.length ∧ i = .int .i64 k ∧ (∀ x ∈ l.take k, p x = false) ∧ Below w.heap.size w wr) (fun i _ => l.length - (intOf i).toNat)
  case atStart => exact ⟨0, Nat.zero_le _, rfl, by simp, Below.refl _ _⟩
  case round =>
    obtain ⟨k, hk, rfl, hall, hB⟩ := hrel
    have HALL := Lib.hid hall
    have HB := Lib.hid hB
    clear hall
    by_cases h1 : k < l.length
    · have hx := HX.out
      rcases hx with hx | ⟨b, o, rfl, hx⟩
      · exfalso; rw [hx] at h1; simp at h1
      have hfacts := ent_cells hx h1
      have HE := Lib.hid (fun h => idxP_at h1 HALL.out h)
      have HN := Lib.hid (fun h => none_step h1 HALL.out h)
      have CL := fun w' h => HP.out l[k] (List.getElem_mem h1) w' h
      clear hx
      generalize l[k] = y at *
      obtain ⟨qb, hqb⟩ : ∃ qb, p y = qb := ⟨_, rfl⟩
      rw [hqb] at CL HE HN
      clear hqb
      obtain ⟨nm, kd, ex, key⟩ := y
      obtain ⟨hx1, hx2, hx3, hx4⟩ := hfacts
      have hc1 := cell_below hB hx1; have hc2 := cell_below hB hx2; have hc3 := cell_below hB hx3; have hc4 := cell_below hB hx4; clear hx1 hx2 hx3 hx4
      have h1' : (k : Int) < (l.length : Int) := by omega
      have CL2 := CL wr hB
      clear hB CL
      cases qb with
      | true =>
        have HF := Lib.hid (HE.out rfl)
        clear HE HN
        go_wp2_with (refine CL2.mono ?_; rintro e w1 ⟨rfl, hb1⟩)
        go_ret
        exact ⟨by rw [HF.out]; rfl, below_chain HB.out hb1 HB.out.size⟩
      | false =>
        have HF := Lib.hid (HN.out rfl)
        clear HE HN
        go_wp2_with (refine CL2.mono ?_; rintro e w1 ⟨rfl, hb1⟩)
        go_roundw
        case rel => exact ⟨k + 1, by omega, by go_num, HF.out, below_chain HB.out hb1 HB.out.size⟩
        case measure => simp [intOf]; omega
    · have h1' : ¬ (k : Int) < (l.length : Int) := by omega
      have HF := Lib.hid (show idxP p l = -1 from idxP_none (by have := HALL.out; rwa [List.take_of_length_le (by omega)] at this))
      go_wp2
      go_ret
      exact ⟨by rw [HF.out]; rfl, HB.out⟩

set_option maxHeartbeats 1100000 in
/-- slices.ContainsFunc: whether one is. -/
theorem hasEnt_walk (g0 : Nat) (caps : Array Value) (p : Ent → Bool) (v : Value) (l : List Ent) (w : World) (hr : Row entC w v l) (hcnt : l.length ≤ 1100000)
    (hen : ∀ args w, (callFunc g0 args).run Tryz.prog w = .ok (.enter g0 args) w)
    (hp : ∀ x ∈ l, ∀ w', Below w.heap.size w w' → Calls Tryz.prog g0 (#[EntV x] ++ caps) w' fun e w'' => e = .returned (.bool (p x)) ∧ Below w'.heap.size w' w'') :
    Calls Tryz.prog 132 #[v, .func (.func g0) #[] caps] w fun e w' => e = .returned (.bool (l.any p)) ∧ Below w.heap.size w w' := by
  obtain ⟨a, c, rfl, hc, hm, hx⟩ := hr
  have CI := idxEnt_walk g0 caps p a c l w ⟨a, c, rfl, hc, hm, hx⟩ hcnt hen hp
  clear hx hp hen
  rcases idxP_cases p l with ⟨e1, hall⟩ | ⟨k0, hk0, e1, hall, hpk⟩
  · have HF := Lib.hid (show l.any p = false by rw [List.any_eq_false]; intro x hx; rw [hall x hx]; simp)
    rw [e1] at CI
    clear hall e1
    go_enter Tryz.func132, Tryz.ntmps132
    go_wp2_with (go_at_call 150; refine (CI).mono ?_; rintro e w1 ⟨rfl, hb1⟩)
    go_ret
    exact ⟨by rw [HF.out]; rfl, hb1⟩
  · have HF := Lib.hid (show l.any p = true by rw [List.any_eq_true]; exact ⟨_, List.getElem_mem hk0, hpk⟩)
    rw [e1] at CI
    have hk : (0 : Int) ≤ (k0 : Int) := by omega
    clear hall e1 hpk
    go_enter Tryz.func132, Tryz.ntmps132
    go_wp2_with (go_at_call 150; refine (CI).mono ?_; rintro e w1 ⟨rfl, hb1⟩)
    go_ret
    exact ⟨by rw [HF.out]; rfl, hb1⟩
end Go.Proofs.YtaompdnnkfmjhaaGreatDoor
