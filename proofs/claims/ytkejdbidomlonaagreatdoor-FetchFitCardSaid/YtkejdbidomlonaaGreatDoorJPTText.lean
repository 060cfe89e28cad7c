/- varint.TakeText. Readers of nodes, plain. -/
import Derived.Test.YtkejdbidomlonaaGreatDoorPTake2
import Derived.Test.YtkejdbidomlonaaGreatDoorNodePlain
import Derived.Test.YtkejdbidomlonaaGreatDoorJNodeFit
namespace Go.Proofs.YtkejdbidomlonaaGreatDoor
open Go.RowKit

set_option maxHeartbeats 1100000 in
set_option maxRecDepth 100000 in
theorem ptaketext_walk (l : List UInt8) (w : World) (hl : l.length ≤ 1100000) :
    Calls Tryz.prog 154 #[S l] w fun e w' => e = .returned (.tuple #[S (takeText l).1, .int .i64 ((takeText l).2.1 : Nat), .int .i64 (takeText l).2.2]) ∧ Below w.heap.size w w' := by
  have C := ptake_walk l w hl
  have HT := Lib.hid (show takeText l = if (takeV l).2.2 ≠ 0 then ([], 0, (takeV l).2.2) else if 65536 < (takeV l).1 then ([], 0, 4) else if l.length - (takeV l).2.1 < (takeV l).1 then ([], 0, 1) else (cutL l (takeV l).2.1 ((takeV l).2.1 + (takeV l).1), (takeV l).2.1 + (takeV l).1, 0) from rfl)
  have hok := takeV_ok (l := l)
  generalize takeText l = tt at *
  generalize takeV l = tv at *
  obtain ⟨n, k, e⟩ := tv
  simp only at C HT hok
  by_cases he : e = 0
  · subst he
    obtain ⟨h1, h2, h3⟩ := hok rfl
    have HT1 := Lib.hid (HT.out.trans (if_neg (by simp)))
    clear hok HT
    by_cases h4 : 65536 < n
    · have HT2 := Lib.hid (HT1.out.trans (if_pos h4))
      have h4' : (65536 : Int) < (n : Int) := by omega
      go_enter Tryz.func154, Tryz.ntmps154
      go_wp2_with (go_at_call 153; refine C.mono ?_; rintro e w1 ⟨rfl, hb⟩)
      go_ret3
      exact ⟨by rw [HT2.out]; rfl, hb⟩
    · have HT2 := Lib.hid (HT1.out.trans (if_neg h4))
      have h4' : ¬ (65536 : Int) < (n : Int) := by omega
      by_cases h5 : l.length - k < n
      · have HT3 := Lib.hid (HT2.out.trans (if_pos h5))
        have h5' : (l.length : Int) - (k : Int) < (n : Int) := by omega
        go_enter Tryz.func154, Tryz.ntmps154
        go_wp2_with (go_at_call 153; refine C.mono ?_; rintro e w1 ⟨rfl, hb⟩)
        go_ret3
        exact ⟨by rw [HT3.out]; rfl, hb⟩
      · have HT3 := Lib.hid (HT2.out.trans (if_neg h5))
        have h5' : ¬ (l.length : Int) - (k : Int) < (n : Int) := by omega
        have h6 : k + n ≤ l.length := by omega
        have h6' : (k : Int) + (n : Int) ≤ (l.length : Int) := by omega
        go_enter Tryz.func154, Tryz.ntmps154
        go_wp2_with (go_at_call 153; refine C.mono ?_; rintro e w1 ⟨rfl, hb⟩)
        go_ret3
        exact ⟨by rw [HT3.out, ← S_extract]; rfl, hb⟩
  · have HT1 := Lib.hid (HT.out.trans (if_pos he))
    have he' : (e == 0) = false := by rw [beq_eq_false_iff_ne]; exact he
    have he2 : (e != 0) = true := by rw [bne_iff_ne]; exact he
    go_enter Tryz.func154, Tryz.ntmps154
    go_wp2_with (go_at_call 153; refine C.mono ?_; rintro e w1 ⟨rfl, hb⟩)
    go_ret3
    exact ⟨by rw [HT1.out]; rfl, hb⟩
end Go.Proofs.YtkejdbidomlonaaGreatDoor

namespace Go.Proofs.YtkejdbidomlonaaGreatDoor
open Go.RowKit

/-- What a reader does with a reading of its bytes. -/
def RdP {α : Type} (r : Option (α × List UInt8)) (ok : Bool) (x : α) (s' : List UInt8) (ok' : Bool) : Prop :=
  (ok = false → ok' = false) ∧ (ok = true → match r with | none => ok' = false | some (a, t) => ok' = true ∧ x = a ∧ s' = t)
theorem RdP.bad {α : Type} {r : Option (α × List UInt8)} {x : α} {s' : List UInt8} : RdP r false x s' false := ⟨fun _ => rfl, fun h => by cases h⟩
theorem RdP.none {α : Type} {r : Option (α × List UInt8)} {x : α} {s' : List UInt8} {ok : Bool} (h : r = Option.none) : RdP r ok x s' false := ⟨fun _ => rfl, fun _ => by rw [h]⟩
theorem RdP.some {α : Type} {r : Option (α × List UInt8)} {x : α} {s' : List UInt8} (h : r = Option.some (x, s')) : RdP r true x s' true := ⟨fun h => (by cases h), fun _ => by rw [h]; exact ⟨rfl, rfl, rfl⟩⟩

theorem partR_of {s : List UInt8} : partR s = match cutR 32 s with | none => none | some (k, s1) => (match numR 4096 s1 with | none => none | some (n, s2) => some ((k, (n : Int)), s2)) := rfl
theorem entR_of {s : List UInt8} : entR s = match textR s with | none => none | some (t, s1) => (match s1 with | [] => none | c :: s2 => (match cutR 32 s2 with | none => none | some (k, s3) => some ((t, (kindB c : Int), execB c, k), s3))) := rfl

def appR {α : Type} (l : List α) (o : Option (List α × List UInt8)) : Option (List α × List UInt8) := o.map (fun q => (l ++ q.1, q.2))
theorem manyR_step {α : Type} {rd : List UInt8 → Option (α × List UInt8)} {n : Nat} {s : List UInt8} (hn : 0 < n) : manyR rd n s = match rd s with | none => none | some (x, s1) => appR [x] (manyR rd (n - 1) s1) := by
  obtain ⟨m, rfl⟩ : ∃ m, n = m + 1 := ⟨n - 1, by omega⟩
  rw [manyR, Nat.add_sub_cancel]
  cases rd s with
  | none => rfl
  | some q =>
    obtain ⟨x, s1⟩ := q
    simp only
    cases manyR rd m s1 with
    | none => rfl
    | some q => rfl
theorem appR_app {α : Type} (l m : List α) (o : Option (List α × List UInt8)) : appR l (appR m o) = appR (l ++ m) o := by
  cases o <;> simp [appR]
/-- What a loop of readings knows behind its first ones. -/
def SevP {α : Type} (rd : List UInt8 → Option (α × List UInt8)) (n : Nat) (s1 : List UInt8) (ok1 : Bool) (k : Nat) (l : List α) (sk : List UInt8) (okk : Bool) : Prop :=
  (ok1 = false → okk = false) ∧ (ok1 = true → if okk = true then manyR rd n s1 = appR l (manyR rd (n - k) sk) else manyR rd n s1 = none)
theorem SevP.start {α : Type} (rd : List UInt8 → Option (α × List UInt8)) (n : Nat) (s1 : List UInt8) (ok1 : Bool) : SevP rd n s1 ok1 0 [] s1 ok1 := by
  refine ⟨fun h => h, fun h => ?_⟩
  rw [if_pos h]
  cases manyR rd n s1 with
  | none => rfl
  | some q => rfl
theorem SevP.next {α : Type} {rd : List UInt8 → Option (α × List UInt8)} {n : Nat} {s1 : List UInt8} {ok1 : Bool} {k : Nat} {l : List α} {sk : List UInt8} {x : α} {s' : List UInt8} {ok' : Bool} (h : SevP rd n s1 ok1 k l sk true) (hk : k < n) (hp : RdP (rd sk) true x s' ok') : SevP rd n s1 ok1 (k + 1) (l ++ [x]) s' ok' := by
  refine ⟨fun e => ?_, fun e => ?_⟩
  · have := h.1 e; cases this
  · have h1 := h.2 e
    rw [if_pos rfl, manyR_step (n := n - k) (s := sk) (by omega)] at h1
    have h2 := hp.2 rfl
    cases hr : rd sk with
    | none =>
      rw [hr] at h1 h2
      rw [show ok' = false from h2, if_neg (by simp)]
      exact h1
    | some q =>
      obtain ⟨x', s2⟩ := q
      rw [hr] at h1 h2
      obtain ⟨e2, rfl, rfl⟩ := (show ok' = true ∧ x = x' ∧ s' = s2 from h2)
      rw [if_pos e2, h1, appR_app]
      rfl
theorem SevP.end_ {α : Type} {rd : List UInt8 → Option (α × List UInt8)} {n : Nat} {s s1 : List UInt8} {ok ok1 : Bool} {k : Nat} {l : List α} {sk : List UInt8} {okk : Bool} (hn : RdP (numR 1024 s) ok n s1 ok1) (h : SevP rd n s1 ok1 k l sk okk) (hk : okk = false ∨ n ≤ k) : RdP (listR rd s) ok l sk okk := by
  refine ⟨fun e => h.1 (hn.1 e), fun e => ?_⟩
  have h1 := hn.2 e
  have hd : listR rd s = match numR 1024 s with | none => none | some (n, s1) => manyR rd n s1 := rfl
  rw [hd]
  cases hq : numR 1024 s with
  | none => rw [hq] at h1; exact h.1 h1
  | some q =>
    obtain ⟨n', s1'⟩ := q
    rw [hq] at h1
    obtain ⟨e1, rfl, rfl⟩ := (show ok1 = true ∧ n = n' ∧ s1 = s1' from h1)
    have h2 := h.2 e1
    simp only
    cases okk with
    | false => rw [if_neg (by simp)] at h2; rw [h2]
    | true =>
      rw [if_pos rfl] at h2
      have hnk : n ≤ k := hk.resolve_left (by simp)
      rw [show n - k = 0 by omega] at h2
      rw [h2]
      show true = true ∧ l = l ++ [] ∧ sk = sk
      exact ⟨rfl, by simp, rfl⟩

theorem manyR_len {α : Type} {rd : List UInt8 → Option (α × List UInt8)} : ∀ (n : Nat) (s r : List UInt8) (l : List α), manyR rd n s = some (l, r) → l.length = n
  | 0, s, r, l, h => by cases h; rfl
  | n + 1, s, r, l, h => by
    unfold manyR at h
    cases h1 : rd s with
    | none => rw [h1] at h; cases h
    | some q =>
      obtain ⟨x, s1⟩ := q
      rw [h1] at h
      simp only at h
      cases h2 : manyR rd n s1 with
      | none => rw [h2] at h; cases h
      | some q =>
        obtain ⟨l2, s2⟩ := q
        rw [h2] at h
        simp only [Option.some.injEq, Prod.mk.injEq] at h
        obtain ⟨rfl, rfl⟩ := h
        rw [List.length_cons, manyR_len n s1 s2 l2 h2]
theorem listR_len {α : Type} {rd : List UInt8 → Option (α × List UInt8)} {s r : List UInt8} {l : List α} (h : listR rd s = some (l, r)) : l.length ≤ 1024 := by
  unfold listR at h
  cases h1 : numR 1024 s with
  | none => rw [h1] at h; cases h
  | some q =>
    obtain ⟨n, s1⟩ := q
    rw [h1] at h
    rw [manyR_len _ _ _ _ h]
    exact (numR_some h1).2
theorem entR_small {s r : List UInt8} {e : Ent} (h : entR s = some (e, r)) : e.1.length ≤ s.length ∧ r.length ≤ s.length := by
  unfold entR at h
  cases h1 : textR s with
  | none => rw [h1] at h; cases h
  | some q =>
    obtain ⟨t, s1⟩ := q
    rw [h1] at h
    simp only at h
    have ht : t.length ≤ s.length ∧ s1.length ≤ s.length := by
      unfold textR at h1
      split at h1
      · cases h1
      · rename_i hn
        cases h1
        have := takeText_ok (l := s) (by apply Classical.byContradiction; intro e; exact hn e)
        exact ⟨this.2, by rw [List.length_drop]; omega⟩
    cases s1 with
    | nil => cases h
    | cons c s2 =>
      simp only at h
      cases h2 : cutR 32 s2 with
      | none => rw [h2] at h; cases h
      | some q =>
        obtain ⟨k, s3⟩ := q
        rw [h2] at h
        simp only [Option.some.injEq, Prod.mk.injEq] at h
        obtain ⟨rfl, rfl⟩ := h
        have h3 := (cutR_some h2).1
        have h4 := congrArg List.length h3
        rw [List.length_append] at h4
        have h5 := ht.2
        rw [List.length_cons] at h5
        exact ⟨ht.1, by omega⟩
theorem manyE_small : ∀ (n : Nat) (s r : List UInt8) (l : List Ent), manyR entR n s = some (l, r) → ∀ e ∈ l, e.1.length ≤ s.length
  | 0, s, r, l, h => by cases h; simp
  | n + 1, s, r, l, h => by
    unfold manyR at h
    cases h1 : entR s with
    | none => rw [h1] at h; cases h
    | some q =>
      obtain ⟨x, s1⟩ := q
      rw [h1] at h
      simp only at h
      cases h2 : manyR entR n s1 with
      | none => rw [h2] at h; cases h
      | some q =>
        obtain ⟨l2, s2⟩ := q
        rw [h2] at h
        simp only [Option.some.injEq, Prod.mk.injEq] at h
        obtain ⟨rfl, rfl⟩ := h
        have hs := entR_small h1
        intro e he
        rcases List.mem_cons.1 he with rfl | he
        · exact hs.1
        · have := manyE_small n s1 s2 l2 h2 e he; omega
theorem listE_small {s r : List UInt8} {l : List Ent} (h : listR entR s = some (l, r)) : ∀ e ∈ l, e.1.length ≤ s.length := by
  unfold listR at h
  cases h1 : numR 1024 s with
  | none => rw [h1] at h; cases h
  | some q =>
    obtain ⟨n, s1⟩ := q
    rw [h1] at h
    have h2 := (numR_some h1).1
    have h3 := congrArg List.length h2
    rw [List.length_append] at h3
    intro e he
    have := manyE_small _ _ _ _ h e he
    omega

theorem row_other {α : Type} {f : α → List Value} {w : World} {v : Value} {l : List α} {b : Nat} (h : Row f w v l) (hb : ∀ j, v.ownBlock = some j → b ≠ j) (o : Nat) (u : Value) : Row f (w.setCell ⟨b, o, none⟩ u) v l := by
  obtain ⟨a, c, rfl, hc, hm, hx⟩ := h
  refine ⟨a, c, rfl, hc, hm, ?_⟩
  rcases hx with hx | ⟨k, o', rfl, hx⟩
  · exact .inl hx
  · refine .inr ⟨k, o', rfl, fun j x hj i y hy => ?_⟩
    have hne := hb k (by simp [Value.ownBlock])
    rw [World.cell?_setCell_other (h := fun e => hne (congrArg Addr.block e))]
    exact hx j x hj i y hy

theorem nod_other {w : World} {n : Nod} {vp ve : Value} {b : Nat} (h : NodRow w n vp ve) (hb : ∀ j, vp.ownBlock = some j → b ≠ j) (hb2 : ∀ j, ve.ownBlock = some j → b ≠ j) (o : Nat) (u : Value) : NodRow (w.setCell ⟨b, o, none⟩ u) n vp ve :=
  ⟨row_other h.parts hb o u, row_other h.ents hb2 o u⟩
/-- What Read leaves. -/
def ReadPost (s : List UInt8) (w : World) (e : Ending) (w' : World) : Prop :=
  ∃ (vp ve : Value), e = .returned (.tuple #[NodV (readN s).1 vp ve, .int .i64 (readN s).2]) ∧ NodRow w' (readN s).1 vp ve ∧ Below w.heap.size w w'

end Go.Proofs.YtkejdbidomlonaaGreatDoor
