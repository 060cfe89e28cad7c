/- varint.TakeText. Readers of nodes, plain. The program's reader of bytes: must, cut, kind. -/
import Derived.Test.YtaompdnnkfmjhaaGreatDoorPTake2
import Derived.Test.YtaompdnnkfmjhaaGreatDoorJNodePlain
import Derived.Test.YtaompdnnkfmjhaaGreatDoorJCList
namespace Go.Proofs.YtaompdnnkfmjhaaGreatDoor
open Go.RowKit

set_option maxHeartbeats 1100000 in
set_option maxRecDepth 100000 in
theorem ptaketext_walk (l : List UInt8) (w : World) (hl : l.length ≤ 1100000) :
    Calls Tryz.prog 148 #[S l] w fun e w' => e = .returned (.tuple #[S (takeText l).1, .int .i64 ((takeText l).2.1 : Nat), .int .i64 (takeText l).2.2]) ∧ Below w.heap.size w w' := by
  have C := ptake_walk l w hl
  have HT := Lib.hid (show takeText l = if (takeV l).2.2 ≠ 0 then ([], 0, (takeV l).2.2) else if 65536 < (takeV l).1 then ([], 0, 4) else if l.length - (takeV l).2.1 < (takeV l).1 then ([], 0, 1) else (cutL l (takeV l).2.1 ((takeV l).2.1 + (takeV l).1), (takeV l).2.1 + (takeV l).1, 0) from rfl)
  have hok := takeV_ok (l := l)
  generalize takeText l = tt at *
  generalize takeV l = tv at *
  obtain ⟨n, k, e⟩ := tv
  simp only at C HT hok
  by_cases he : e = 0
  · subst he
    obtain ⟨h1, h2, h3⟩ := hok rfl
    have HT1 := Lib.hid (HT.out.trans (if_neg (by simp)))
    clear hok HT
    by_cases h4 : 65536 < n
    · have HT2 := Lib.hid (HT1.out.trans (if_pos h4))
      have h4' : (65536 : Int) < (n : Int) := by omega
      go_enter Tryz.func148, Tryz.ntmps148
      go_wp2_with (go_at_call 147; refine C.mono ?_; rintro e w1 ⟨rfl, hb⟩)
      go_ret3
      exact ⟨by rw [HT2.out]; rfl, hb⟩
    · have HT2 := Lib.hid (HT1.out.trans (if_neg h4))
      have h4' : ¬ (65536 : Int) < (n : Int) := by omega
      by_cases h5 : l.length - k < n
      · have HT3 := Lib.hid (HT2.out.trans (if_pos h5))
        have h5' : (l.length : Int) - (k : Int) < (n : Int) := by omega
        go_enter Tryz.func148, Tryz.ntmps148
        go_wp2_with (go_at_call 147; refine C.mono ?_; rintro e w1 ⟨rfl, hb⟩)
        go_ret3
        exact ⟨by rw [HT3.out]; rfl, hb⟩
      · have HT3 := Lib.hid (HT2.out.trans (if_neg h5))
        have h5' : ¬ (l.length : Int) - (k : Int) < (n : Int) := by omega
        have h6 : k + n ≤ l.length := by omega
        have h6' : (k : Int) + (n : Int) ≤ (l.length : Int) := by omega
        go_enter Tryz.func148, Tryz.ntmps148
        go_wp2_with (go_at_call 147; refine C.mono ?_; rintro e w1 ⟨rfl, hb⟩)
        go_ret3
        exact ⟨by rw [HT3.out, ← S_extract]; rfl, hb⟩
  · have HT1 := Lib.hid (HT.out.trans (if_pos he))
    have he' : (e == 0) = false := by rw [beq_eq_false_iff_ne]; exact he
    have he2 : (e != 0) = true := by rw [bne_iff_ne]; exact he
    go_enter Tryz.func148, Tryz.ntmps148
    go_wp2_with (go_at_call 147; refine C.mono ?_; rintro e w1 ⟨rfl, hb⟩)
    go_ret3
    exact ⟨by rw [HT1.out]; rfl, hb⟩
end Go.Proofs.YtaompdnnkfmjhaaGreatDoor

namespace Go.Proofs.YtaompdnnkfmjhaaGreatDoor
open Go.RowKit

/-- What a reader does with a reading of its bytes. -/
def RdP {α : Type} (r : Option (α × List UInt8)) (ok : Bool) (x : α) (s' : List UInt8) (ok' : Bool) : Prop :=
  (ok = false → ok' = false) ∧ (ok = true → match r with | none => ok' = false | some (a, t) => ok' = true ∧ x = a ∧ s' = t)
theorem RdP.bad {α : Type} {r : Option (α × List UInt8)} {x : α} {s' : List UInt8} : RdP r false x s' false := ⟨fun _ => rfl, fun h => by cases h⟩
theorem RdP.none {α : Type} {r : Option (α × List UInt8)} {x : α} {s' : List UInt8} {ok : Bool} (h : r = Option.none) : RdP r ok x s' false := ⟨fun _ => rfl, fun _ => by rw [h]⟩
theorem RdP.some {α : Type} {r : Option (α × List UInt8)} {x : α} {s' : List UInt8} (h : r = Option.some (x, s')) : RdP r true x s' true := ⟨fun h => (by cases h), fun _ => by rw [h]; exact ⟨rfl, rfl, rfl⟩⟩

theorem partR_of {s : List UInt8} : partR s = match cutR 32 s with | none => none | some (k, s1) => (match numR 4096 s1 with | none => none | some (n, s2) => some ((k, (n : Int)), s2)) := rfl
theorem entR_of {s : List UInt8} : entR s = match textR s with | none => none | some (t, s1) => (match s1 with | [] => none | c :: s2 => (match cutR 32 s2 with | none => none | some (k, s3) => some ((t, (kindB c : Int), execB c, k), s3))) := rfl

def appR {α : Type} (l : List α) (o : Option (List α × List UInt8)) : Option (List α × List UInt8) := o.map (fun q => (l ++ q.1, q.2))
theorem manyR_step {α : Type} {rd : List UInt8 → Option (α × List UInt8)} {n : Nat} {s : List UInt8} (hn : 0 < n) : manyR rd n s = match rd s with | none => none | some (x, s1) => appR [x] (manyR rd (n - 1) s1) := by
  obtain ⟨m, rfl⟩ : ∃ m, n = m + 1 := ⟨n - 1, by omega⟩
  rw [manyR, Nat.add_sub_cancel]
  cases rd s with
  | none => rfl
  | some q =>
    obtain ⟨x, s1⟩ := q
    simp only
    cases manyR rd m s1 with
    | none => rfl
    | some q => rfl
theorem appR_app {α : Type} (l m : List α) (o : Option (List α × List UInt8)) : appR l (appR m o) = appR (l ++ m) o := by
  cases o <;> simp [appR]
/-- What a loop of readings knows behind its first ones. -/
def SevP {α : Type} (rd : List UInt8 → Option (α × List UInt8)) (n : Nat) (s1 : List UInt8) (ok1 : Bool) (k : Nat) (l : List α) (sk : List UInt8) (okk : Bool) : Prop :=
  (ok1 = false → okk = false) ∧ (ok1 = true → if okk = true then manyR rd n s1 = appR l (manyR rd (n - k) sk) else manyR rd n s1 = none)
theorem SevP.start {α : Type} (rd : List UInt8 → Option (α × List UInt8)) (n : Nat) (s1 : List UInt8) (ok1 : Bool) : SevP rd n s1 ok1 0 [] s1 ok1 := by
  refine ⟨fun h => h, fun h => ?_⟩
  rw [if_pos h]
  cases manyR rd n s1 with
  | none => rfl
  | some q => rfl
theorem SevP.next {α : Type} {rd : List UInt8 → Option (α × List UInt8)} {n : Nat} {s1 : List UInt8} {ok1 : Bool} {k : Nat} {l : List α} {sk : List UInt8} {x : α} {s' : List UInt8} {ok' : Bool} (h : SevP rd n s1 ok1 k l sk true) (hk : k < n) (hp : RdP (rd sk) true x s' ok') : SevP rd n s1 ok1 (k + 1) (l ++ [x]) s' ok' := by
  refine ⟨fun e => ?_, fun e => ?_⟩
  · have := h.1 e; cases this
  · have h1 := h.2 e
    rw [if_pos rfl, manyR_step (n := n - k) (s := sk) (by omega)] at h1
    have h2 := hp.2 rfl
    cases hr : rd sk with
    | none =>
      rw [hr] at h1 h2
      rw [show ok' = false from h2, if_neg (by simp)]
      exact h1
    | some q =>
      obtain ⟨x', s2⟩ := q
      rw [hr] at h1 h2
      obtain ⟨e2, rfl, rfl⟩ := (show ok' = true ∧ x = x' ∧ s' = s2 from h2)
      rw [if_pos e2, h1, appR_app]
      rfl
theorem SevP.end_ {α : Type} {rd : List UInt8 → Option (α × List UInt8)} {n : Nat} {s s1 : List UInt8} {ok ok1 : Bool} {k : Nat} {l : List α} {sk : List UInt8} {okk : Bool} (hn : RdP (numR 1024 s) ok n s1 ok1) (h : SevP rd n s1 ok1 k l sk okk) (hk : okk = false ∨ n ≤ k) : RdP (listR rd s) ok l sk okk := by
  refine ⟨fun e => h.1 (hn.1 e), fun e => ?_⟩
  have h1 := hn.2 e
  have hd : listR rd s = match numR 1024 s with | none => none | some (n, s1) => manyR rd n s1 := rfl
  rw [hd]
  cases hq : numR 1024 s with
  | none => rw [hq] at h1; exact h.1 h1
  | some q =>
    obtain ⟨n', s1'⟩ := q
    rw [hq] at h1
    obtain ⟨e1, rfl, rfl⟩ := (show ok1 = true ∧ n = n' ∧ s1 = s1' from h1)
    have h2 := h.2 e1
    simp only
    cases okk with
    | false => rw [if_neg (by simp)] at h2; rw [h2]
    | true =>
      rw [if_pos rfl] at h2
      have hnk : n ≤ k := hk.resolve_left (by simp)
      rw [show n - k = 0 by omega] at h2
      rw [h2]
      show true = true ∧ l = l ++ [] ∧ sk = sk
      exact ⟨rfl, by simp, rfl⟩

theorem manyR_len {α : Type} {rd : List UInt8 → Option (α × List UInt8)} : ∀ (n : Nat) (s r : List UInt8) (l : List α), manyR rd n s = some (l, r) → l.length = n
  | 0, s, r, l, h => by cases h; rfl
  | n + 1, s, r, l, h => by
    unfold manyR at h
    cases h1 : rd s with
    | none => rw [h1] at h; cases h
    | some q =>
      obtain ⟨x, s1⟩ := q
      rw [h1] at h
      simp only at h
      cases h2 : manyR rd n s1 with
      | none => rw [h2] at h; cases h
      | some q =>
        obtain ⟨l2, s2⟩ := q
        rw [h2] at h
        simp only [Option.some.injEq, Prod.mk.injEq] at h
        obtain ⟨rfl, rfl⟩ := h
        rw [List.length_cons, manyR_len n s1 s2 l2 h2]
theorem listR_len {α : Type} {rd : List UInt8 → Option (α × List UInt8)} {s r : List UInt8} {l : List α} (h : listR rd s = some (l, r)) : l.length ≤ 1024 := by
  unfold listR at h
  cases h1 : numR 1024 s with
  | none => rw [h1] at h; cases h
  | some q =>
    obtain ⟨n, s1⟩ := q
    rw [h1] at h
    rw [manyR_len _ _ _ _ h]
    exact (numR_some h1).2
theorem entR_small {s r : List UInt8} {e : Ent} (h : entR s = some (e, r)) : e.1.length ≤ s.length ∧ r.length ≤ s.length := by
  unfold entR at h
  cases h1 : textR s with
  | none => rw [h1] at h; cases h
  | some q =>
    obtain ⟨t, s1⟩ := q
    rw [h1] at h
    simp only at h
    have ht : t.length ≤ s.length ∧ s1.length ≤ s.length := by
      unfold textR at h1
      split at h1
      · cases h1
      · rename_i hn
        cases h1
        have := takeText_ok (l := s) (by apply Classical.byContradiction; intro e; exact hn e)
        exact ⟨this.2, by rw [List.length_drop]; omega⟩
    cases s1 with
    | nil => cases h
    | cons c s2 =>
      simp only at h
      cases h2 : cutR 32 s2 with
      | none => rw [h2] at h; cases h
      | some q =>
        obtain ⟨k, s3⟩ := q
        rw [h2] at h
        simp only [Option.some.injEq, Prod.mk.injEq] at h
        obtain ⟨rfl, rfl⟩ := h
        have h3 := (cutR_some h2).1
        have h4 := congrArg List.length h3
        rw [List.length_append] at h4
        have h5 := ht.2
        rw [List.length_cons] at h5
        exact ⟨ht.1, by omega⟩
theorem manyE_small : ∀ (n : Nat) (s r : List UInt8) (l : List Ent), manyR entR n s = some (l, r) → ∀ e ∈ l, e.1.length ≤ s.length
  | 0, s, r, l, h => by cases h; simp
  | n + 1, s, r, l, h => by
    unfold manyR at h
    cases h1 : entR s with
    | none => rw [h1] at h; cases h
    | some q =>
      obtain ⟨x, s1⟩ := q
      rw [h1] at h
      simp only at h
      cases h2 : manyR entR n s1 with
      | none => rw [h2] at h; cases h
      | some q =>
        obtain ⟨l2, s2⟩ := q
        rw [h2] at h
        simp only [Option.some.injEq, Prod.mk.injEq] at h
        obtain ⟨rfl, rfl⟩ := h
        have hs := entR_small h1
        intro e he
        rcases List.mem_cons.1 he with rfl | he
        · exact hs.1
        · have := manyE_small n s1 s2 l2 h2 e he; omega
theorem listE_small {s r : List UInt8} {l : List Ent} (h : listR entR s = some (l, r)) : ∀ e ∈ l, e.1.length ≤ s.length := by
  unfold listR at h
  cases h1 : numR 1024 s with
  | none => rw [h1] at h; cases h
  | some q =>
    obtain ⟨n, s1⟩ := q
    rw [h1] at h
    have h2 := (numR_some h1).1
    have h3 := congrArg List.length h2
    rw [List.length_append] at h3
    intro e he
    have := manyE_small _ _ _ _ h e he
    omega

theorem row_other {α : Type} {f : α → List Value} {w : World} {v : Value} {l : List α} {b : Nat} (h : Row f w v l) (hb : ∀ j, v.ownBlock = some j → b ≠ j) (o : Nat) (u : Value) : Row f (w.setCell ⟨b, o, none⟩ u) v l := by
  obtain ⟨a, c, rfl, hc, hm, hx⟩ := h
  refine ⟨a, c, rfl, hc, hm, ?_⟩
  rcases hx with hx | ⟨k, o', rfl, hx⟩
  · exact .inl hx
  · refine .inr ⟨k, o', rfl, fun j x hj i y hy => ?_⟩
    have hne := hb k (by simp [Value.ownBlock])
    rw [World.cell?_setCell_other (h := fun e => hne (congrArg Addr.block e))]
    exact hx j x hj i y hy

theorem nod_other {w : World} {n : Nod} {vp ve : Value} {b : Nat} (h : NodRow w n vp ve) (hb : ∀ j, vp.ownBlock = some j → b ≠ j) (hb2 : ∀ j, ve.ownBlock = some j → b ≠ j) (o : Nat) (u : Value) : NodRow (w.setCell ⟨b, o, none⟩ u) n vp ve :=
  ⟨row_other h.parts hb o u, row_other h.ents hb2 o u⟩
/-- What Read leaves. -/
def ReadPost (s : List UInt8) (w : World) (e : Ending) (w' : World) : Prop :=
  ∃ (vp ve : Value), e = .returned (.tuple #[NodV (readN s).1 vp ve, .int .i64 (readN s).2]) ∧ NodRow w' (readN s).1 vp ve ∧ Below w.heap.size w w'

end Go.Proofs.YtaompdnnkfmjhaaGreatDoor

namespace Go.Proofs.YtaompdnnkfmjhaaGreatDoor
open Go.RowKit

def ErrV (ok : Bool) (ev : Value) : Prop := (ok = true ∧ ev = .nilIface) ∨ (ok = false ∧ ∃ b, ev = .iface 133 (.pointer (some ⟨b, 0, none⟩)))

set_option maxHeartbeats 1000000 in
set_option maxRecDepth 100000 in
theorem must_walk (c : Int) (w : World) :
    Calls Tryz.prog 105 #[.int .i64 c] w fun e w' => ∃ ev, e = .returned ev ∧ ErrV (c == 0) ev ∧ Below w.heap.size w w' := by
  cases h : (c == 0) with
  | true =>
    go_enter Tryz.func105, Tryz.ntmps105
    go_wp2
    go_ret
    exact ⟨_, rfl, .inl ⟨rfl, rfl⟩, Below.refl _ _⟩
  | false =>
    go_enter Tryz.func105, Tryz.ntmps105
    go_wp2
    go_ret
    exact ⟨_, rfl, .inr ⟨rfl, _, rfl⟩, (Below.refl _ _).alloc (Nat.le_refl _) _⟩

theorem rd_set0 {w : World} {g : Nat} {s s' : List UInt8} {ev : Value} (h : w.heap[g]? = some (.cells #[S s, ev] 131 (0, 0))) : (w.setCell ⟨g, 0, none⟩ (S s')).heap[g]? = some (.cells #[S s', ev] 131 (0, 0)) := by
  have := heap_set_cell (o := 0) h (S s')
  simpa using this
theorem rd_set1 {w : World} {g : Nat} {s : List UInt8} {ev ev' : Value} (h : w.heap[g]? = some (.cells #[S s, ev] 131 (0, 0))) : (w.setCell ⟨g, 1, none⟩ ev').heap[g]? = some (.cells #[S s, ev'] 131 (0, 0)) := by
  have := heap_set_cell (o := 1) h ev'
  simpa using this


/-- What a reader's method leaves. -/
def RdPost {α : Type} (enc : α → Value) (g : Nat) (r : Option (α × List UInt8)) (s : List UInt8) (ok : Bool) (w : World) (e : Ending) (w' : World) : Prop :=
  ∃ (x : α) (s' : List UInt8) (ok' : Bool), e = .returned (enc x) ∧ RdAt w' g s' ok' ∧ Gro g w w' ∧ s'.length ≤ s.length ∧ RdP r ok x s' ok'

set_option maxHeartbeats 2000000 in
set_option maxRecDepth 100000 in
theorem cut_walk (g N : Nat) (s : List UInt8) (ok : Bool) (w : World) (h : RdAt w g s ok) (_hs : s.length ≤ 1100000) (hN : N ≤ 2000000) :
    Calls Tryz.prog 126 #[.pointer (some ⟨g, 0, none⟩), .int .i64 N] w (RdPost S g (cutR N s) s ok w) := by
  obtain ⟨ev, hb, hev⟩ := h
  obtain ⟨⟨z0, z1⟩, ⟨f0, f1⟩, ⟨s0, s1⟩⟩ := box2 hb
  have HB := Lib.hid hb
  clear hb
  rcases hev with ⟨rfl, rfl⟩ | ⟨rfl, b, rfl⟩
  · by_cases hl : s.length < N
    · have hl' : (s.length : Int) < (N : Int) := by omega
      have HN := Lib.hid (show cutR N s = none from if_pos hl)
      clear hl
      go_enter Tryz.func126, Tryz.ntmps126
      go_wp2_with fail
      refine (must_walk 1 w).mono ?_
      rintro e w1 ⟨ev1, rfl, he1, hb1⟩
      rcases he1 with ⟨he1, -⟩ | ⟨-, b1, rfl⟩
      · cases he1
      have hb2 := (hb1.block g (heap_lt HB.out)).trans HB.out
      have HB2 := Lib.hid hb2
      obtain ⟨⟨y0, y1⟩, ⟨f0', f1'⟩, ⟨s0', s1'⟩⟩ := box2 hb2
      have hb3 := rd_set1 (ev' := .iface 133 (.pointer (some ⟨b1, 0, none⟩))) hb2
      have HB3 := Lib.hid hb3
      obtain ⟨⟨x0, x1⟩, -, -⟩ := box2 hb3
      have HG := Lib.hid (gro_set (gro_of (g := g) hb1) 1 (.iface 133 (.pointer (some ⟨b1, 0, none⟩))))
      clear hb2 hb3 hb1
      go_wp2
      go_ret
      exact ⟨[], s, false, rfl, ⟨_, HB3.out, .inr ⟨rfl, _, rfl⟩⟩, HG.out, Nat.le_refl _, RdP.none HN.out⟩
    · have hl' : ¬ (s.length : Int) < (N : Int) := by omega
      have hl2 : (N : Int) ≤ (s.length : Int) := by omega
      have HN := Lib.hid (show cutR N s = some (s.take N, s.drop N) from if_neg hl)
      have hc1 : ({ data := s.toArray } : ByteArray).extract 0 N = ⟨(s.take N).toArray⟩ := by rw [ba_cut, cutL_head]
      have hc2 : ({ data := s.toArray } : ByteArray).extract N s.length = ⟨(s.drop N).toArray⟩ := by rw [ba_cut, cutL_tail _ _ _ (Nat.le_refl _)]
      have HL := Lib.hid (show (s.take N).length ≤ s.length ∧ (s.drop N).length ≤ s.length by rw [List.length_take, List.length_drop]; omega)
      have HB3 := Lib.hid (rd_set0 (s' := s.drop N) HB.out)
      have HG := Lib.hid (gro_set (World.grownBy.refl w (some g)) 0 (S (s.drop N)))
      generalize s.take N = a at *
      generalize s.drop N = r at *
      clear hl
      go_enter Tryz.func126, Tryz.ntmps126
      go_wp2
      go_ret
      exact ⟨a, r, true, rfl, ⟨_, HB3.out, .inl ⟨rfl, rfl⟩⟩, HG.out, HL.out.2, RdP.some HN.out⟩
  · go_enter Tryz.func126, Tryz.ntmps126
    go_wp2
    go_ret
    exact ⟨[], s, false, rfl, ⟨_, HB.out, .inr ⟨rfl, _, rfl⟩⟩, World.grownBy.refl _ _, Nat.le_refl _, RdP.bad⟩

def firstR : List UInt8 → Option (UInt8 × List UInt8)
  | [] => Option.none
  | c :: r => Option.some (c, r)
set_option maxHeartbeats 2000000 in
set_option maxRecDepth 100000 in
theorem kind_walk (g : Nat) (s : List UInt8) (ok : Bool) (w : World) (h : RdAt w g s ok) (hs : s.length ≤ 1100000) :
    Calls Tryz.prog 99 #[.pointer (some ⟨g, 0, none⟩)] w (RdPost (fun c : UInt8 => .int .u8 (c.toNat : Nat)) g (firstR s) s ok w) := by
  have C := cut_walk g 1 s ok w h hs (by omega)
  go_enter Tryz.func99, Tryz.ntmps99
  go_wp2_with fail
  refine C.mono ?_
  rintro e w1 ⟨t, s', ok', rfl, hr, hg, hl, hp⟩
  clear C
  have HP := Lib.hid hp
  have HG := Lib.hid hg
  have HR := Lib.hid hr
  clear hp hg hr
  cases t with
  | nil =>
    go_wp2
    go_ret
    refine ⟨0, s', ok', rfl, HR.out, HG.out, hl, HP.out.1, fun e => ?_⟩
    have h2 := HP.out.2 e
    cases s with
    | nil => exact h2
    | cons c r => obtain ⟨_, h3, _⟩ := (show ok' = true ∧ ([] : List UInt8) = [c] ∧ s' = r from h2); cases h3
  | cons c t =>
    have hne : ((c :: t) == ([] : List UInt8)) = false := rfl
    go_wp2
    go_ret
    refine ⟨c, s', ok', rfl, HR.out, HG.out, hl, HP.out.1, fun e => ?_⟩
    have h2 := HP.out.2 e
    cases s with
    | nil => exact h2
    | cons c' r => obtain ⟨h4, h3, h5⟩ := (show ok' = true ∧ (c :: t) = [c'] ∧ s' = r from h2); cases h3; exact ⟨h4, rfl, h5⟩

set_option maxHeartbeats 4000000 in
set_option maxRecDepth 100000 in
theorem number_walk (g m : Nat) (s : List UInt8) (ok : Bool) (w : World) (h : RdAt w g s ok) (hs : s.length ≤ 1100000) (hm : m ≤ 2000000) :
    Calls Tryz.prog 127 #[.pointer (some ⟨g, 0, none⟩), .int .u64 m] w (RdPost (fun n : Nat => .int .i64 (n : Int)) g (numR m s) s ok w) := by
  obtain ⟨ev, hb, hev⟩ := h
  have HB := Lib.hid hb
  obtain ⟨⟨z0, z1⟩, -, -⟩ := box2 hb
  clear hb
  have CT := ptake_walk s w hs
  have hok := takeV_ok (l := s)
  have HNO := Lib.hid (fun h : (takeV s).2.2 ≠ 0 ∨ m < (takeV s).1 => (show numR m s = none from if_pos h))
  have HYES := Lib.hid (fun h : ¬ ((takeV s).2.2 ≠ 0 ∨ m < (takeV s).1) => (show numR m s = some ((takeV s).1, s.drop (takeV s).2.1) from if_neg h))
  generalize takeV s = tv at *
  obtain ⟨n, k, c⟩ := tv
  simp only at CT hok HNO HYES
  go_enter Tryz.func127, Tryz.ntmps127
  go_wp2_with fail
  refine CT.mono ?_
  rintro e w1 ⟨rfl, hb1⟩
  clear CT z0 z1
  have hz1 := (hb1.block g (heap_lt HB.out)).trans HB.out
  have HZ1 := Lib.hid hz1
  have HG1 := Lib.hid (gro_of (g := g) hb1)
  obtain ⟨⟨z0, z1⟩, ⟨f0, f1⟩, ⟨q0, q1⟩⟩ := box2 hz1
  clear hz1 hb1
  rcases hev with ⟨rfl, rfl⟩ | ⟨rfl, b, rfl⟩
  case inr =>
    go_wp2
    go_ret
    exact ⟨0, s, false, rfl, ⟨_, HZ1.out, .inr ⟨rfl, _, rfl⟩⟩, HG1.out, Nat.le_refl _, RdP.bad⟩
  case inl =>
  go_wp2_with fail
  refine (must_walk c w1).mono ?_
  rintro e w2 ⟨ev2, rfl, he2, hb2⟩
  have hz2 := (hb2.block g (heap_lt HZ1.out)).trans HZ1.out
  have hz3 := rd_set1 (ev' := ev2) hz2
  have HZ3 := Lib.hid hz3
  have HG3 := Lib.hid (gro_set (gro_chain HG1.out hb2) 1 ev2)
  obtain ⟨⟨y0, y1⟩, ⟨g0, g1⟩, ⟨r0, r1⟩⟩ := box2 hz2
  obtain ⟨w3, hw3, hz4⟩ : ∃ w3, w3 = w2.setCell ⟨g, 1, none⟩ ev2 ∧ w3.heap[g]? = some (.cells #[S s, ev2] 131 (0, 0)) := ⟨_, rfl, hz3⟩
  rw [← hw3] at HG3 HZ3
  clear z0 z1 f0 f1 q0 q1 hz2 hz3 hb2
  rcases he2 with ⟨hc, rfl⟩ | ⟨hc, b2, rfl⟩
  · have hc0 : c = 0 := by simpa using hc
    subst hc0
    obtain ⟨k1, k2, k3⟩ := hok rfl
    go_upto_region 4 with fail
    rw [← hw3]
    clear hw3 y0 y1 g0 g1 r0 r1
    obtain ⟨⟨y0, y1⟩, ⟨g0, g1⟩, ⟨r0, r1⟩⟩ := box2 hz4
    by_cases hmn : m < n
    · have hmn' : (m : Int) < (n : Int) := by omega
      have HF := Lib.hid (HNO.out (.inr hmn))
      clear hmn
      go_wp2_with fail
      refine (must_walk 4 w3).mono ?_
      rintro e w4 ⟨ev4, rfl, he4, hb4⟩
      rcases he4 with ⟨he4, -⟩ | ⟨-, b4, rfl⟩
      · cases he4
      have hz5 := (hb4.block g (heap_lt hz4)).trans hz4
      have HZ6 := Lib.hid (rd_set1 (ev' := .iface 133 (.pointer (some ⟨b4, 0, none⟩))) hz5)
      have HG6 := Lib.hid (gro_set (gro_chain HG3.out hb4) 1 (.iface 133 (.pointer (some ⟨b4, 0, none⟩))))
      obtain ⟨⟨x0, x1⟩, ⟨d0, d1⟩, ⟨p0, p1⟩⟩ := box2 hz5
      obtain ⟨⟨v0, v1⟩, -, -⟩ := box2 HZ6.out
      clear y0 y1 g0 g1 r0 r1 hz5 hb4
      go_wp2
      go_ret
      exact ⟨0, s, false, rfl, ⟨_, HZ6.out, .inr ⟨rfl, _, rfl⟩⟩, HG6.out, Nat.le_refl _, RdP.none HF.out⟩
    · have hmn' : ¬ (m : Int) < (n : Int) := by omega
      have HF := Lib.hid (HYES.out (by simp; omega))
      have hk' : (k : Int) ≤ (s.length : Int) := by omega
      have hc2 : ({ data := s.toArray } : ByteArray).extract k s.length = ⟨(s.drop k).toArray⟩ := by rw [ba_cut, cutL_tail _ _ _ (Nat.le_refl _)]
      have hnw : IntKind.i64.wrap (n : Int) = (n : Int) := by rw [IntKind.wrap_i64]; omega
      have HL := Lib.hid (show (s.drop k).length ≤ s.length by rw [List.length_drop]; omega)
      have HZ6 := Lib.hid (rd_set0 (s' := s.drop k) hz4)
      have HG6 := Lib.hid (gro_set HG3.out 0 (S (s.drop k)))
      generalize s.drop k = r at *
      clear hmn
      go_wp2
      go_ret
      exact ⟨n, r, true, rfl, ⟨_, HZ6.out, .inl ⟨rfl, rfl⟩⟩, HG6.out, HL.out, RdP.some HF.out⟩
  · have hc0 : c ≠ 0 := by simpa using hc
    have HF := Lib.hid (HNO.out (.inl hc0))
    clear hc hc0 hok
    go_upto_region 4 with fail
    rw [← hw3]
    clear hw3 y0 y1 g0 g1 r0 r1
    obtain ⟨⟨y0, y1⟩, ⟨g0, g1⟩, ⟨r0, r1⟩⟩ := box2 hz4
    go_wp2
    go_ret
    exact ⟨0, s, false, rfl, ⟨_, HZ3.out, .inr ⟨rfl, _, rfl⟩⟩, HG3.out, Nat.le_refl _, RdP.none HF.out⟩

theorem takeText_zero {l : List UInt8} (h : (takeText l).2.2 ≠ 0) : (takeText l).2.1 = 0 := by
  unfold takeText at h ⊢
  split
  · rfl
  · split
    · rfl
    · split
      · rfl
      · rename_i h1 h2 h3
        rw [if_neg h1, if_neg h2, if_neg h3] at h
        exact absurd rfl h
set_option maxHeartbeats 4000000 in
set_option maxRecDepth 100000 in
theorem text_walk (g : Nat) (s : List UInt8) (ok : Bool) (w : World) (h : RdAt w g s ok) (hs : s.length ≤ 1100000) :
    Calls Tryz.prog 128 #[.pointer (some ⟨g, 0, none⟩)] w (RdPost S g (textR s) s ok w) := by
  obtain ⟨ev, hb, hev⟩ := h
  have HB := Lib.hid hb
  obtain ⟨⟨z0, z1⟩, -, -⟩ := box2 hb
  clear hb
  have CT := ptaketext_walk s w hs
  have hok := takeText_ok (l := s)
  have HNO := Lib.hid (fun h : (takeText s).2.2 ≠ 0 => (show textR s = none from if_pos h))
  have hzero := takeText_zero (l := s)
  have HYES := Lib.hid (fun h : ¬ ((takeText s).2.2 ≠ 0) => (show textR s = some ((takeText s).1, s.drop (takeText s).2.1) from if_neg h))
  generalize takeText s = tv at *
  obtain ⟨n, k, c⟩ := tv
  simp only at CT hok HNO HYES hzero
  have hkl : k ≤ 2000000 := by
    by_cases h : c = 0
    · have := (hok h).1; omega
    · have := hzero h; omega
  clear hzero
  go_enter Tryz.func128, Tryz.ntmps128
  go_wp2_with fail
  refine CT.mono ?_
  rintro e w1 ⟨rfl, hb1⟩
  clear CT z0 z1
  have hz1 := (hb1.block g (heap_lt HB.out)).trans HB.out
  have HZ1 := Lib.hid hz1
  have HG1 := Lib.hid (gro_of (g := g) hb1)
  obtain ⟨⟨z0, z1⟩, ⟨f0, f1⟩, ⟨q0, q1⟩⟩ := box2 hz1
  clear hz1 hb1
  rcases hev with ⟨rfl, rfl⟩ | ⟨rfl, b, rfl⟩
  case inr =>
    have CC := cut_walk g k s false w1 ⟨_, HZ1.out, .inr ⟨rfl, _, rfl⟩⟩ hs hkl
    go_wp2_with fail
    refine CC.mono ?_
    rintro e w2 ⟨t, s', ok', rfl, hr2, hg2, hl2, hp2⟩
    have HR2 := Lib.hid hr2
    have HG2 := Lib.hid (World.grownBy.trans HG1.out hg2)
    have HP2 := Lib.hid hp2
    clear CC hr2 hg2 hp2
    go_wp2
    go_ret
    exact ⟨n, s', ok', rfl, HR2.out, HG2.out, hl2, HP2.out.1, fun e => by cases e⟩
  case inl =>
  go_wp2_with fail
  refine (must_walk c w1).mono ?_
  rintro e w2 ⟨ev2, rfl, he2, hb2⟩
  have hz2 := (hb2.block g (heap_lt HZ1.out)).trans HZ1.out
  have hz3 := rd_set1 (ev' := ev2) hz2
  have HG3 := Lib.hid (gro_set (gro_chain HG1.out hb2) 1 ev2)
  obtain ⟨⟨y0, y1⟩, ⟨g0, g1⟩, ⟨r0, r1⟩⟩ := box2 hz2
  obtain ⟨w3, hw3, hz4⟩ : ∃ w3, w3 = w2.setCell ⟨g, 1, none⟩ ev2 ∧ w3.heap[g]? = some (.cells #[S s, ev2] 131 (0, 0)) := ⟨_, rfl, hz3⟩
  rw [← hw3] at HG3
  clear z0 z1 f0 f1 q0 q1 hz2 hz3 hb2
  have CC := cut_walk g k s (c == 0) w3 ⟨ev2, hz4, he2⟩ hs hkl
  rcases he2 with ⟨-, rfl⟩ | ⟨-, b2, rfl⟩
  all_goals
    go_upto_region 4 with fail
    rw [← hw3]
    clear hw3 y0 y1 g0 g1 r0 r1 hz4
    go_wp2_with fail
    refine CC.mono ?_
    rintro e w4 ⟨t, s', ok', rfl, hr4, hg4, hl4, hp4⟩
    have HR4 := Lib.hid hr4
    have HG4 := Lib.hid (World.grownBy.trans HG3.out hg4)
    have HP4 := Lib.hid hp4
    clear CC hr4 hg4 hp4
    go_wp2
    go_ret
    refine ⟨n, s', ok', rfl, HR4.out, HG4.out, hl4, fun e => (by cases e), fun _ => ?_⟩
    by_cases hc : c = 0
    · have h1 := HP4.out.2 (by rw [hc]; rfl)
      obtain ⟨k1, k2⟩ := hok hc
      rw [show cutR k s = some (s.take k, s.drop k) from if_neg (by omega)] at h1
      rw [HYES.out (fun h => h hc)]
      exact ⟨h1.1, rfl, h1.2.2⟩
    · rw [HNO.out hc]
      exact HP4.out.1 (by rw [beq_eq_false_iff_ne]; exact hc)

set_option maxHeartbeats 2000000 in
set_option maxRecDepth 100000 in
theorem part_walk (g : Nat) (s : List UInt8) (ok : Bool) (w : World) (h : RdAt w g s ok) (hs : s.length ≤ 1100000) :
    Calls Tryz.prog 101 #[.pointer (some ⟨g, 0, none⟩)] w (RdPost PrtV g (partR s) s ok w) := by
  obtain ⟨w1, hw1, hb1, hz1⟩ : ∃ w1, w1 = w.alloc (.cells #[.string ⟨#[]⟩, .int .i64 0] 78) ∧ Below w.heap.size w w1 ∧ w1.heap[w.heap.size]? = some (.cells #[.string ⟨#[]⟩, .int .i64 0] 78 (0, 0)) :=
    ⟨_, rfl, (Below.refl _ _).alloc (Nat.le_refl _) _, heap_alloc_new _ _⟩
  have hgl : g < w.heap.size := by obtain ⟨_, h1, _⟩ := h; exact heap_lt h1
  have C1 := cut_walk g 32 s ok w1 (h.below hb1) hs (by omega)
  have HG1 := Lib.hid (gro_of (g := g) hb1)
  clear hb1
  go_enter Tryz.func101, Tryz.ntmps101
  go_upto_region 1 with fail
  rw [← hw1]
  clear hw1
  go_wp2_with fail
  refine C1.mono ?_
  rintro e w2 ⟨k, s1, ok1, rfl, hr2, hg2, hl2, hp2⟩
  have hz2 : w2.heap[w.heap.size]? = some (.cells #[.string ⟨#[]⟩, .int .i64 0] 78 (0, 0)) := (hg2.block _ (heap_lt hz1) (by simp; omega)).trans hz1
  have HG2 := Lib.hid (World.grownBy.trans HG1.out hg2)
  have HP2 := Lib.hid hp2
  have C2 := number_walk g 4096 s1 ok1 w2 hr2 (by omega) (by omega)
  clear C1 hr2 hp2
  go_wp2_with fail
  refine C2.mono ?_
  rintro e w3 ⟨n, s2, ok2, rfl, hr3, hg3, hl3, hp3⟩
  have hz3 : w3.heap[w.heap.size]? = some (.cells #[.string ⟨#[]⟩, .int .i64 0] 78 (0, 0)) := (hg3.block _ (heap_lt hz2) (by simp; omega)).trans hz2
  have HG3 := Lib.hid (World.grownBy.trans HG2.out hg3)
  have HP3 := Lib.hid hp3
  obtain ⟨⟨z0, z1⟩, ⟨f0, f1⟩, ⟨q0, q1⟩⟩ := box2 hz3
  obtain ⟨w4, hw4, hz4, hr4, hg4⟩ : ∃ w4, w4 = (w3.setCell ⟨w.heap.size, 0, none⟩ (S k)).setCell ⟨w.heap.size, 1, none⟩ (.int .i64 (n : Int)) ∧ w4.heap[w.heap.size]? = some (.cells #[S k, .int .i64 (n : Int)] 78 (0, 0)) ∧ RdAt w4 g s2 ok2 ∧ Gro g w w4 := by
    refine ⟨_, rfl, heap_set_cell (heap_set_cell hz3 _) _, ?_, ?_⟩
    · obtain ⟨ev, h1, h2⟩ := hr3
      exact ⟨ev, ((Below.heap_setCell _ _ _ _ (show g ≠ w.heap.size by omega)).trans ((Below.heap_setCell _ _ _ _ (show g ≠ w.heap.size by omega)).trans h1)), h2⟩
    · have hB : ∀ (W : World) (o : Nat) (v : Value), Gro g w W → Gro g w (W.setCell ⟨w.heap.size, o, none⟩ v) := fun W o v hW =>
        ⟨hW.os, hW.tape, hW.output, by simpa using hW.size, fun k hk hne => (Below.heap_setCell _ _ _ _ (show k ≠ w.heap.size by omega)).trans (hW.block k hk hne)⟩
      exact hB _ _ _ (hB _ _ _ HG3.out)
  have HR4 := Lib.hid hr4
  have HG4 := Lib.hid hg4
  have HW4 := Lib.hid hw4
  clear C2 hr3 hp3 hg3 hg2 hz2 hz1 hr4 hg4 hw4
  go_wp2
  rw [← HW4.out]
  obtain ⟨⟨x0, x1⟩, -, -⟩ := box2 hz4
  refine bodyPost_ret (v := PrtV (k, (n : Int))) (by simp [results, Tryz.results101, go_sem, x0, x1]) rfl ?_
  refine ⟨(k, (n : Int)), s2, ok2, rfl, HR4.out, HG4.out, by omega, fun e => HP3.out.1 (HP2.out.1 e), fun e => ?_⟩
  have h1 := HP2.out.2 e
  rw [partR_of]
  cases hq : cutR 32 s with
  | none => rw [hq] at h1; exact HP3.out.1 h1
  | some q =>
    obtain ⟨qa, qs⟩ := q
    rw [hq] at h1
    obtain ⟨e1, rfl, rfl⟩ := (show ok1 = true ∧ k = qa ∧ s1 = qs from h1)
    have h2 := HP3.out.2 e1
    simp only
    cases hq2 : numR 4096 s1 with
    | none => rw [hq2] at h2; exact h2
    | some q2 =>
      obtain ⟨qn, qr⟩ := q2
      rw [hq2] at h2
      obtain ⟨e2, rfl, rfl⟩ := (show ok2 = true ∧ n = qn ∧ s2 = qr from h2)
      exact ⟨e2, rfl, rfl⟩
end Go.Proofs.YtaompdnnkfmjhaaGreatDoor
