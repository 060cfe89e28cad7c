/- Nodes and their bytes, in plain words. No program in sight. How much a fit node holds. Boxes of four cells; rows that stay. Nodes, their parts and entries in memory. The reference's Name. Regions that draw their order, at the class of all later worlds: those that lie over the world at hand, which stays as it is. -/
import Derived.Test.YtbmdoekfbkpaeaaGreatDoorJRowG
import Derived.Test.YtbmdoekfbkpaeaaGreatDoorJPlain
import Derived.Deep.Cut
import Derived.Deep.RegionWith
namespace Go.Proofs.YtbmdoekfbkpaeaaGreatDoor

/-- What was taken stands in the bytes as it is written. -/
theorem takeGo_canon : ∀ (l : List UInt8) (i acc : Nat), i ≤ 9 → (takeGo i acc l).2.2 = 0 → ∃ n k : Nat, (takeGo i acc l).1 = acc + n * 2 ^ (7 * i) ∧ (takeGo i acc l).2.1 = i + k ∧ l.take k = putV n ∧ k ≤ l.length ∧ ¬ (n = 0 ∧ 0 < i)
  | [], i, acc, _, h => by simp [takeGo] at h
  | c :: cs, i, acc, h9, h => by
    unfold takeGo at h ⊢
    have hc := c.toNat_lt
    by_cases h1 : i = 9 ∧ 1 < c.toNat
    · rw [if_pos h1] at h; simp at h
    rw [if_neg h1] at h ⊢
    by_cases h2 : c.toNat < 128
    · rw [if_pos h2] at h ⊢
      by_cases h3 : c.toNat = 0 ∧ 0 < i
      · rw [if_pos h3] at h; simp at h
      · rw [if_neg h3]
        refine ⟨c.toNat, 1, ?_, rfl, ?_, by simp, h3⟩
        · simp only; rw [Nat.mod_eq_of_lt h2]
        · rw [putV_small h2]; simp
    · rw [if_neg h2] at h ⊢
      have hi : i < 9 := by
        rcases Nat.lt_or_ge i 9 with hi | hi
        · exact hi
        · exact absurd ⟨by omega, by omega⟩ h1
      obtain ⟨n, k, q1, q2, q3, q4, q5⟩ := takeGo_canon cs (i + 1) _ (by omega) h
      have hn0 : n ≠ 0 := fun e => q5 ⟨e, by omega⟩
      refine ⟨c.toNat % 128 + 128 * n, k + 1, ?_, ?_, ?_, by simp; omega, by omega⟩
      · rw [q1, Nat.add_mul, show 7 * (i + 1) = 7 * i + 7 by omega, Nat.pow_add, Nat.add_assoc]
        congr 1
        rw [show 128 * n * 2 ^ (7 * i) = n * (2 ^ (7 * i) * 2 ^ 7) by rw [show (2 : Nat) ^ 7 = 128 by rfl, Nat.mul_comm 128 n, Nat.mul_assoc, Nat.mul_comm 128]]
      · rw [q2]; omega
      · rw [List.take_succ_cons, q3, putV_big (n := c.toNat % 128 + 128 * n) (by omega)]
        congr 1
        · apply UInt8.toNat_inj.1
          rw [UInt8.toNat_ofNat']
          omega
        · congr 1; omega
theorem takeV_canon {l : List UInt8} (h : (takeV l).2.2 = 0) : l = putV (takeV l).1 ++ l.drop (takeV l).2.1 := by
  obtain ⟨n, k, q1, q2, q3, q4, _⟩ := takeGo_canon l 0 0 (by omega) h
  have e1 : (takeV l).1 = n := by show (takeGo 0 0 l).1 = n; rw [q1]; simp
  have e2 : (takeV l).2.1 = k := by show (takeGo 0 0 l).2.1 = k; rw [q2]; omega
  rw [e1, e2, ← q3, List.take_append_drop]
theorem takeText_canon {l : List UInt8} (h : (takeText l).2.2 = 0) : l = putText (takeText l).1 ++ l.drop (takeText l).2.1 ∧ (takeText l).1.length ≤ 65536 := by
  unfold takeText at h ⊢
  by_cases h1 : (takeV l).2.2 ≠ 0
  · rw [if_pos h1] at h; exact absurd h h1
  rw [if_neg h1] at h ⊢
  by_cases h2 : 65536 < (takeV l).1
  · rw [if_pos h2] at h; simp at h
  rw [if_neg h2] at h ⊢
  by_cases h3 : l.length - (takeV l).2.1 < (takeV l).1
  · rw [if_pos h3] at h; simp at h
  rw [if_neg h3]
  have hc := takeV_canon (l := l) (by simpa using h1)
  have hk := (takeV_ok (l := l) (by simpa using h1)).1
  simp only
  generalize (takeV l).1 = n at *
  generalize (takeV l).2.1 = k at *
  have hcl : (cutL l k (k + n)).length = n := by simp only [cutL, List.length_drop, List.length_take]; omega
  refine ⟨?_, by omega⟩
  unfold putText
  rw [if_neg (by omega), hcl]
  have h4 : l.drop k = cutL l k (k + n) ++ l.drop (k + n) := by
    have h5 : (l.drop k).take n = cutL l k (k + n) := by simp only [cutL]; rw [List.drop_take]; congr 1; omega
    rw [← h5, show l.drop (k + n) = (l.drop k).drop n by rw [List.drop_drop], List.take_append_drop]
  rw [List.append_assoc, ← h4]
  exact hc

abbrev Prt := List UInt8 × Int
/-- A directory's entry: its name, its kind, whether it can be run, its key. -/
abbrev Ent := List UInt8 × Int × Bool × List UInt8
structure Nod where
  kind : Int
  data : List UInt8
  parts : List Prt
  ents : List Ent
def zNod : Nod := ⟨0, [], [], []⟩
def partOk (p : Prt) : Bool := p.1.length == 32 && (decide (1 ≤ p.2) && decide (p.2 ≤ 4096))
def wholeP (l : List Prt) : Int := (l.map (·.2)).sum
def entOk (e : Ent) : Bool := (e.2.1 == 2 || e.2.1 == 3 && !e.2.2.1) && (e.2.2.2.length == 32 && nameB e.1)
def risesE (l : List Ent) : Prop := (l.map (·.1)).Pairwise (· < ·)
structure FitFile (l : List Prt) : Prop where
  len : l.length ≤ 1024
  ok : ∀ p ∈ l, partOk p = true
  whole : wholeP l ≤ 32768
structure FitDir (l : List Ent) : Prop where
  len : l.length ≤ 60
  ok : ∀ e ∈ l, entOk e = true
  rises : risesE l
def FitN (n : Nod) : Prop :=
  (n.kind = 1 ∧ n.data ≠ [] ∧ n.data.length ≤ 4096 ∧ n.parts = [] ∧ n.ents = []) ∨ (n.kind = 2 ∧ n.data = [] ∧ n.ents = [] ∧ FitFile n.parts) ∨ (n.kind = 3 ∧ n.data = [] ∧ n.parts = [] ∧ FitDir n.ents)
noncomputable def fitN (n : Nod) : Bool := @decide (FitN n) (Classical.propDecidable _)
theorem fitN_iff {n : Nod} : fitN n = true ↔ FitN n := by unfold fitN; exact @decide_eq_true_iff _ (Classical.propDecidable _)
theorem fitN_no {n : Nod} (h : ¬ FitN n) : fitN n = false := by
  cases e : fitN n with
  | false => rfl
  | true => exact absurd (fitN_iff.1 e) h
def partW (p : Prt) : List UInt8 := p.1 ++ putV p.2.toNat
def kindW (e : Ent) : UInt8 := UInt8.ofNat (e.2.1.toNat + if e.2.2.1 = true then 4 else 0)
def entW (e : Ent) : List UInt8 := putText e.1 ++ [kindW e] ++ e.2.2.2
def bodyN (n : Nod) : List UInt8 := if n.kind = 1 then n.data else if n.kind = 2 then putV n.parts.length ++ n.parts.flatMap partW else putV n.ents.length ++ n.ents.flatMap entW
noncomputable def writeN (n : Nod) : List UInt8 := if fitN n = true then UInt8.ofNat n.kind.toNat :: bodyN n else []

/-! What bytes begin with, and the rest. -/
def cutR (n : Nat) (s : List UInt8) : Option (List UInt8 × List UInt8) := if s.length < n then none else some (s.take n, s.drop n)
def numR (most : Nat) (s : List UInt8) : Option (Nat × List UInt8) := if (takeV s).2.2 ≠ 0 ∨ most < (takeV s).1 then none else some ((takeV s).1, s.drop (takeV s).2.1)
def textR (s : List UInt8) : Option (List UInt8 × List UInt8) := if (takeText s).2.2 ≠ 0 then none else some ((takeText s).1, s.drop (takeText s).2.1)
def kindB (c : UInt8) : Nat := c.toNat - 4 * (c.toNat / 4 % 2)
def execB (c : UInt8) : Bool := c.toNat / 4 % 2 == 1
def partR (s : List UInt8) : Option (Prt × List UInt8) :=
  match cutR 32 s with
  | none => none
  | some (k, s1) => match numR 4096 s1 with
    | none => none
    | some (n, s2) => some ((k, (n : Int)), s2)
def entR (s : List UInt8) : Option (Ent × List UInt8) :=
  match textR s with
  | none => none
  | some (t, s1) => match s1 with
    | [] => none
    | c :: s2 => match cutR 32 s2 with
      | none => none
      | some (k, s3) => some ((t, (kindB c : Int), execB c, k), s3)
def manyR {α : Type} (r : List UInt8 → Option (α × List UInt8)) : Nat → List UInt8 → Option (List α × List UInt8)
  | 0, s => some ([], s)
  | n + 1, s => match r s with
    | none => none
    | some (x, s1) => match manyR r n s1 with
      | none => none
      | some (l, s2) => some (x :: l, s2)
def listR {α : Type} (r : List UInt8 → Option (α × List UInt8)) (s : List UInt8) : Option (List α × List UInt8) :=
  match numR 1024 s with
  | none => none
  | some (n, s1) => manyR r n s1
def parseN : List UInt8 → Option (Nod × List UInt8)
  | [] => none
  | c :: s => if c.toNat = 1 then some (⟨1, s, [], []⟩, []) else if c.toNat = 2 then (match listR partR s with | none => none | some (l, r) => some (⟨2, [], l, []⟩, r))
    else if c.toNat = 3 then (match listR entR s with | none => none | some (l, r) => some (⟨3, [], [], l⟩, r)) else none
noncomputable def readN (s : List UInt8) : Nod × Int :=
  match parseN s with
  | none => (zNod, 2)
  | some (n, r) => if r = [] ∧ fitN n = true then (n, 0) else (zNod, 2)

theorem parseN_cons (c : UInt8) (s : List UInt8) : parseN (c :: s) = if c.toNat = 1 then some (⟨1, s, [], []⟩, []) else if c.toNat = 2 then (match listR partR s with | none => none | some (l, r) => some (⟨2, [], l, []⟩, r))
    else if c.toNat = 3 then (match listR entR s with | none => none | some (l, r) => some (⟨3, [], [], l⟩, r)) else none := rfl
theorem cutR_some {n : Nat} {s a r : List UInt8} (h : cutR n s = some (a, r)) : s = a ++ r ∧ a.length = n := by
  unfold cutR at h
  split at h
  · cases h
  · cases h
    exact ⟨(List.take_append_drop _ _).symm, by rw [List.length_take]; omega⟩
theorem numR_some {m n : Nat} {s r : List UInt8} (h : numR m s = some (n, r)) : s = putV n ++ r ∧ n ≤ m := by
  unfold numR at h
  split at h
  · cases h
  · rename_i hn
    cases h
    exact ⟨takeV_canon (by apply Classical.byContradiction; intro e; exact hn (.inl e)), by omega⟩
theorem textR_some {s t r : List UInt8} (h : textR s = some (t, r)) : s = putText t ++ r := by
  unfold textR at h
  split at h
  · cases h
  · rename_i hn
    cases h
    exact (takeText_canon (by apply Classical.byContradiction; intro e; exact hn e)).1
theorem partR_some {s r : List UInt8} {p : Prt} (h : partR s = some (p, r)) : s = partW p ++ r := by
  unfold partR at h
  cases h1 : cutR 32 s with
  | none => rw [h1] at h; cases h
  | some q =>
    obtain ⟨k, s1⟩ := q
    rw [h1] at h
    simp only at h
    cases h2 : numR 4096 s1 with
    | none => rw [h2] at h; cases h
    | some q =>
      obtain ⟨n, s2⟩ := q
      rw [h2] at h
      simp only [Option.some.injEq, Prod.mk.injEq] at h
      obtain ⟨rfl, rfl⟩ := h
      rw [(cutR_some h1).1, (numR_some h2).1]
      simp [partW]
theorem kind_back {c : UInt8} (_h : kindB c = 2 ∨ kindB c = 3) : UInt8.ofNat (kindB c + if execB c = true then 4 else 0) = c := by
  apply UInt8.toNat_inj.1
  rw [UInt8.toNat_ofNat']
  unfold kindB execB at *
  have := c.toNat_lt
  by_cases e : c.toNat / 4 % 2 = 1
  · rw [if_pos (by simpa using e)]; omega
  · rw [if_neg (by simpa using e)]; omega
theorem entR_some {s r : List UInt8} {e : Ent} (h : entR s = some (e, r)) (hk : entOk e = true) : s = entW e ++ r := by
  unfold entR at h
  cases h1 : textR s with
  | none => rw [h1] at h; cases h
  | some q =>
    obtain ⟨t, s1⟩ := q
    rw [h1] at h
    simp only at h
    cases s1 with
    | nil => cases h
    | cons c s2 =>
      simp only at h
      cases h2 : cutR 32 s2 with
      | none => rw [h2] at h; cases h
      | some q =>
        obtain ⟨k, s3⟩ := q
        rw [h2] at h
        simp only [Option.some.injEq, Prod.mk.injEq] at h
        obtain ⟨rfl, rfl⟩ := h
        have hkk : kindB c = 2 ∨ kindB c = 3 := by
          unfold entOk at hk
          simp only [Bool.and_eq_true, Bool.or_eq_true, beq_iff_eq] at hk
          rcases hk.1 with h | ⟨h, _⟩ <;> omega
        have hb := kind_back hkk
        rw [textR_some h1]
        unfold entW kindW
        simp only [Int.toNat_natCast]
        rw [hb, (cutR_some h2).1]
        simp
theorem manyR_some {α : Type} {rd : List UInt8 → Option (α × List UInt8)} {wr : α → List UInt8} {ok : α → Prop} (hr : ∀ s x r, rd s = some (x, r) → ok x → s = wr x ++ r) :
    ∀ (n : Nat) (s r : List UInt8) (l : List α), manyR rd n s = some (l, r) → (∀ x ∈ l, ok x) → s = l.flatMap wr ++ r ∧ l.length = n
  | 0, s, r, l, h, _ => by cases h; exact ⟨rfl, rfl⟩
  | n + 1, s, r, l, h, hok => by
    unfold manyR at h
    cases h1 : rd s with
    | none => rw [h1] at h; cases h
    | some q =>
      obtain ⟨x, s1⟩ := q
      rw [h1] at h
      simp only at h
      cases h2 : manyR rd n s1 with
      | none => rw [h2] at h; cases h
      | some q =>
        obtain ⟨l2, s2⟩ := q
        rw [h2] at h
        simp only [Option.some.injEq, Prod.mk.injEq] at h
        obtain ⟨rfl, rfl⟩ := h
        obtain ⟨e1, e2⟩ := manyR_some hr n s1 s2 l2 h2 (fun y hy => hok y (List.mem_cons_of_mem _ hy))
        refine ⟨?_, by simp [e2]⟩
        rw [hr _ _ _ h1 (hok x List.mem_cons_self), e1]
        simp
theorem listR_some {α : Type} {rd : List UInt8 → Option (α × List UInt8)} {wr : α → List UInt8} {ok : α → Prop} (hr : ∀ s x r, rd s = some (x, r) → ok x → s = wr x ++ r)
    {s r : List UInt8} {l : List α} (h : listR rd s = some (l, r)) (hok : ∀ x ∈ l, ok x) : s = putV l.length ++ l.flatMap wr ++ r := by
  unfold listR at h
  cases h1 : numR 1024 s with
  | none => rw [h1] at h; cases h
  | some q =>
    obtain ⟨n, s1⟩ := q
    rw [h1] at h
    obtain ⟨e1, e2⟩ := manyR_some hr n s1 r l h hok
    rw [(numR_some h1).1, e2, List.append_assoc, ← e1]
/-- What was read as a node that can be is what it is written as, and the rest. -/
theorem parseN_some {s r : List UInt8} {n : Nod} (h : parseN s = some (n, r)) (hf : FitN n) : s = writeN n ++ r := by
  unfold writeN
  rw [if_pos (fitN_iff.2 hf)]
  cases s with
  | nil => cases h
  | cons c s =>
    rw [parseN_cons] at h
    have hc : ∀ k : Nat, c.toNat = k → UInt8.ofNat k = c := fun k e => by rw [← e]; exact UInt8.ofNat_toNat
    split at h
    · rename_i h1
      cases h
      unfold bodyN
      rw [if_pos rfl]
      show c :: s = UInt8.ofNat 1 :: s ++ []
      rw [hc 1 h1, List.append_nil]
    · split at h
      · rename_i h1
        cases h2 : listR partR s with
        | none => rw [h2] at h; cases h
        | some q =>
          obtain ⟨l, r2⟩ := q
          rw [h2] at h
          cases h
          unfold bodyN
          simp only
          rw [if_neg (by decide), if_pos trivial]
          show c :: s = UInt8.ofNat 2 :: (putV l.length ++ l.flatMap partW) ++ r
          rw [hc 2 h1, listR_some (rd := partR) (wr := partW) (ok := fun _ => True) (fun s x r h _ => partR_some h) h2 (fun _ _ => trivial)]
          rfl
      · split at h
        · rename_i h1
          cases h2 : listR entR s with
          | none => rw [h2] at h; cases h
          | some q =>
            obtain ⟨l, r2⟩ := q
            rw [h2] at h
            cases h
            have hok : ∀ e ∈ l, entOk e = true := by
              rcases hf with ⟨h3, _⟩ | ⟨h3, _⟩ | ⟨_, _, _, h4⟩
              · cases h3
              · cases h3
              · exact h4.ok
            unfold bodyN
            simp only
            rw [if_neg (by decide), if_neg (by decide)]
            show c :: s = UInt8.ofNat 3 :: (putV l.length ++ l.flatMap entW) ++ r
            rw [hc 3 h1, listR_some (rd := entR) (wr := entW) (ok := fun e => entOk e = true) (fun s x r h hk => entR_some h hk) h2 hok]
            rfl
        · cases h
theorem readN_some {s r : List UInt8} {n : Nod} (h : parseN s = some (n, r)) (hf : FitN n) : (r = [] ↔ writeN n = s) := by
  have h1 := parseN_some h hf
  constructor
  · rintro rfl; rw [h1, List.append_nil]
  · intro e
    rw [e] at h1
    have := congrArg List.length h1
    rw [List.length_append] at this
    exact List.eq_nil_of_length_eq_zero (by omega)
end Go.Proofs.YtbmdoekfbkpaeaaGreatDoor

namespace Go.Proofs.YtbmdoekfbkpaeaaGreatDoor

theorem fit_sizes {n : Nod} (hf : FitN n) : n.parts.length ≤ 1024 ∧ n.ents.length ≤ 60 ∧ n.data.length ≤ 4096 ∧ (∀ p ∈ n.parts, partOk p = true) ∧ (∀ e ∈ n.ents, entOk e = true) ∧ 1 ≤ n.kind ∧ n.kind ≤ 3 := by
  rcases hf with ⟨h1, h2, h3, h4, h5⟩ | ⟨h1, h2, h3, h4⟩ | ⟨h1, h2, h3, h4⟩
  · rw [h4, h5]; exact ⟨by simp, by simp, h3, by simp, by simp, by omega, by omega⟩
  · rw [h2, h3]; exact ⟨h4.len, by simp, by simp, h4.ok, by simp, by omega, by omega⟩
  · rw [h2, h3]; exact ⟨by simp, h4.len, by simp, by simp, h4.ok, by omega, by omega⟩
end Go.Proofs.YtbmdoekfbkpaeaaGreatDoor

namespace Go.Proofs.YtbmdoekfbkpaeaaGreatDoor
open Go.RowKit

theorem new_cells4 (w : World) (v u x z : Value) (e : Nat) : ∀ (j : Nat) y, [v, u, x, z][j]? = some y → (w.alloc (.cells #[v, u, x, z] e)).cell? ((⟨w.heap.size, 0, none⟩ : Addr).add j) = some y := by
  intro j y hj
  match j, hj with
  | 0, hj => simp at hj; subst hj; simp [Addr.add]
  | 1, hj => simp at hj; subst hj; simp [Addr.add]
  | 2, hj => simp at hj; subst hj; simp [Addr.add]
  | 3, hj => simp at hj; subst hj; simp [Addr.add]
theorem below_setT {B : Nat} {w w' : World} (h : Below B w w') {g : Nat} (hg : B ≤ g) (o : Nat) (u : Value) : Below B w (w'.setCell ⟨g, o, none⟩ u) := h.setCell (p := ⟨g, o, none⟩) hg u
theorem own_on {w w' : World} {base e k n : Nat} {v : Value} {xs : List Value} (h : w.ownsRow base e k v n xs) (hb : Below w.heap.size w w') : w'.ownsRow base e k v n xs :=
  h.kept (⟨hb.os, hb.tape, hb.output, hb.size, fun k hk _ => hb.block k hk⟩ : w.grownBy w' none) (by
    rcases h.2 with ⟨h, _⟩ | ⟨g, cap, cur, h, _⟩
    · rw [h]; exact .inl rfl
    · rw [h]; exact .inr (by simp [Value.ownBlock]))
theorem box4 {w : World} {g : Nat} {v u x z : Value} {t : TypeId} (h : w.heap[g]? = some (.cells #[v, u, x, z] t (0, 0))) :
    (w.cell? ⟨g, 0, none⟩ = some v ∧ w.cell? ⟨g, 1, none⟩ = some u ∧ w.cell? ⟨g, 2, none⟩ = some x ∧ w.cell? ⟨g, 3, none⟩ = some z) ∧
    (w.frozen? ⟨g, 0, none⟩ = false ∧ w.frozen? ⟨g, 1, none⟩ = false ∧ w.frozen? ⟨g, 2, none⟩ = false ∧ w.frozen? ⟨g, 3, none⟩ = false) ∧
    ((w.cell? ⟨g, 0, none⟩).isSome = true ∧ (w.cell? ⟨g, 1, none⟩).isSome = true ∧ (w.cell? ⟨g, 2, none⟩).isSome = true ∧ (w.cell? ⟨g, 3, none⟩).isSome = true) := by
  have h0 := heap_cell h (j := 0) (v := v) rfl
  have h1 := heap_cell h (j := 1) (v := u) rfl
  have h2 := heap_cell h (j := 2) (v := x) rfl
  have h3 := heap_cell h (j := 3) (v := z) rfl
  exact ⟨⟨h0, h1, h2, h3⟩, ⟨heap_free h 0, heap_free h 1, heap_free h 2, heap_free h 3⟩, ⟨is_some h0, is_some h1, is_some h2, is_some h3⟩⟩
end Go.Proofs.YtbmdoekfbkpaeaaGreatDoor

namespace Go.Proofs.YtbmdoekfbkpaeaaGreatDoor
open Go.RowKit

abbrev prtC (p : Prt) : List Value := [S p.1, .int .i64 p.2]
abbrev PrtV (p : Prt) : Value := .agg #[S p.1, .int .i64 p.2]
abbrev PrtRow := Row prtC
abbrev entC (e : Ent) : List Value := [S e.1, .int .i64 e.2.1, .bool e.2.2.1, S e.2.2.2]
abbrev EntV (e : Ent) : Value := .agg #[S e.1, .int .i64 e.2.1, .bool e.2.2.1, S e.2.2.2]
abbrev EntRow := Row entC
theorem infoPrt : (Tryz.prog.info? 65).map (fun i => (i.zero, i.size, i.bytes)) = some (some (.agg #[.string ⟨#[]⟩, .int .i64 0]), 2, 24) := by kernel_rfl
theorem infoEnt : (Tryz.prog.info? 69).map (fun i => (i.zero, i.size, i.bytes)) = some (some (.agg #[.string ⟨#[]⟩, .int .i64 0, .bool false, .string ⟨#[]⟩]), 4, 48) := by kernel_rfl
theorem prt_cells {w : World} {b o : Nat} {xs : List Prt} (h : ∀ j x, xs[j]? = some x → ∀ i u, (prtC x)[i]? = some u → w.cell? ⟨b, o + j * (prtC x).length + i, none⟩ = some u) {j : Nat} (hj : j < xs.length) :
    w.cell? ⟨b, o + j * 2, none⟩ = some (S xs[j].1) ∧ w.cell? ⟨b, o + j * 2 + 1, none⟩ = some (.int .i64 xs[j].2) :=
  ⟨h j xs[j] (by simp [hj]) 0 _ rfl, h j xs[j] (by simp [hj]) 1 _ rfl⟩
theorem ent_cells {w : World} {b o : Nat} {xs : List Ent} (h : ∀ j x, xs[j]? = some x → ∀ i u, (entC x)[i]? = some u → w.cell? ⟨b, o + j * (entC x).length + i, none⟩ = some u) {j : Nat} (hj : j < xs.length) :
    w.cell? ⟨b, o + j * 4, none⟩ = some (S xs[j].1) ∧ w.cell? ⟨b, o + j * 4 + 1, none⟩ = some (.int .i64 xs[j].2.1) ∧ w.cell? ⟨b, o + j * 4 + 2, none⟩ = some (.bool xs[j].2.2.1) ∧ w.cell? ⟨b, o + j * 4 + 3, none⟩ = some (S xs[j].2.2.2) :=
  ⟨h j xs[j] (by simp [hj]) 0 _ rfl, h j xs[j] (by simp [hj]) 1 _ rfl, h j xs[j] (by simp [hj]) 2 _ rfl, h j xs[j] (by simp [hj]) 3 _ rfl⟩
theorem prt2_one (x : Prt) : ∀ u ∈ prtC x, u.oneCell' = true := by
  intro u hu; simp at hu; rcases hu with rfl | rfl <;> rfl
theorem ent4_one (x : Ent) : ∀ u ∈ entC x, u.oneCell' = true := by
  intro u hu; simp at hu; rcases hu with rfl | rfl | rfl | rfl <;> rfl
/-- A node as a value, of the rows' values. -/
abbrev NodV (n : Nod) (vp ve : Value) : Value := .agg #[.int .i64 n.kind, S n.data, vp, ve]
structure NodRow (w : World) (n : Nod) (vp ve : Value) : Prop where
  parts : PrtRow w vp n.parts
  ents : EntRow w ve n.ents
theorem NodRow.below {w w' : World} {n : Nod} {vp ve : Value} (h : NodRow w n vp ve) (hb : Below w.heap.size w w') : NodRow w' n vp ve := ⟨h.parts.below hb, h.ents.below hb⟩
/-- A box of two cells. -/
theorem box2 {w : World} {g : Nat} {v u : Value} {t : TypeId} (h : w.heap[g]? = some (.cells #[v, u] t (0, 0))) :
    (w.cell? ⟨g, 0, none⟩ = some v ∧ w.cell? ⟨g, 1, none⟩ = some u) ∧ (w.frozen? ⟨g, 0, none⟩ = false ∧ w.frozen? ⟨g, 1, none⟩ = false) ∧ ((w.cell? ⟨g, 0, none⟩).isSome = true ∧ (w.cell? ⟨g, 1, none⟩).isSome = true) := by
  have h0 := heap_cell h (j := 0) (v := v) rfl
  have h1 := heap_cell h (j := 1) (v := u) rfl
  exact ⟨⟨h0, h1⟩, ⟨heap_free h 0, heap_free h 1⟩, ⟨is_some h0, is_some h1⟩⟩
theorem row_slice {α : Type} {f : α → List Value} {w : World} {v : Value} {l : List α} (h : Row f w v l) : ∃ a c, v = .slice a l.length c := by
  obtain ⟨a, c, h1, _⟩ := h
  exact ⟨a, c, h1⟩
end Go.Proofs.YtbmdoekfbkpaeaaGreatDoor

namespace Go.Proofs.YtbmdoekfbkpaeaaGreatDoor
open Go.RowKit

theorem okByte_true {c : UInt8} (h : okByte c = true) : ((c.toNat : Int) == 0) = false ∧ ((c.toNat : Int) == 47) = false := by
  simp only [okByte, Bool.and_eq_true, Bool.not_eq_true', beq_eq_false_iff_ne, ne_eq] at h
  constructor
  · rw [beq_eq_false_iff_ne]; intro e; exact h.1 (UInt8.toNat_inj.1 (by simpa using e))
  · rw [beq_eq_false_iff_ne]; intro e; exact h.2 (UInt8.toNat_inj.1 (by simp; omega))
theorem okByte_false {c : UInt8} (h : okByte c = false) : c = 0 ∨ c = 47 := by
  simp only [okByte, Bool.and_eq_false_iff, Bool.not_eq_false', beq_iff_eq] at h
  exact h
theorem all_take_succ (l : List UInt8) (k : Nat) (h : k < l.length) : (l.take (k + 1)).all okByte = ((l.take k).all okByte && okByte l[k]) := by
  rw [List.take_succ_eq_append_getElem h, List.all_append]; simp
theorem all_bad {l : List UInt8} {k : Nat} (h : k < l.length) (hb : okByte l[k] = false) : l.all okByte = false := by
  rw [Bool.eq_false_iff]; intro ha; rw [List.all_eq_true] at ha; have := ha _ (List.getElem_mem h); rw [hb] at this; cases this

set_option maxHeartbeats 400000 in
theorem rname_walk (l : List UInt8) (w : World) (hl : l.length ≤ 1100000) :
    Calls Tryz.prog 88 #[S l] w fun e w' => e = .returned (.bool (nameB l)) ∧ w = w' := by
  by_cases hb : (l.isEmpty || decide (31 < l.length) || l == [46] || l == [46, 46]) = true
  · have HB := Lib.hid (show nameB l = false by unfold nameB; rw [hb]; rfl)
    rw [HB.out]
    by_cases h1 : l = []
    · subst h1
      go_enter Tryz.func88, Tryz.ntmps88
      go_wp2
      go_ret
      exact ⟨rfl, rfl⟩
    · have h1' : l.isEmpty = false := by simpa using h1
      clear h1
      by_cases h2 : (31 : Int) < (l.length : Int)
      · go_enter Tryz.func88, Tryz.ntmps88
        go_wp2
        go_ret
        exact ⟨rfl, rfl⟩
      · simp only [h1', Bool.false_or, Bool.or_eq_true, decide_eq_true_eq, beq_iff_eq] at hb
        rcases hb with (hb | hb) | hb
        · omega
        · subst hb
          go_enter Tryz.func88, Tryz.ntmps88
          go_wp2
          go_ret
          exact ⟨rfl, rfl⟩
        · subst hb
          go_enter Tryz.func88, Tryz.ntmps88
          go_wp2
          go_ret
          exact ⟨rfl, rfl⟩
  · have hb' : (l.isEmpty || decide (31 < l.length) || l == [46] || l == [46, 46]) = false := by simpa using hb
    simp only [Bool.or_eq_false_iff] at hb'
    obtain ⟨⟨⟨h1, h2⟩, h3⟩, h4⟩ := hb'
    have HN := Lib.hid (show nameB l = l.all okByte by unfold nameB; rw [h1, h2, h3, h4]; rfl)
    have h2' : (l.length : Int) ≤ 31 := by simp at h2; omega
    clear hb h2
    go_enter Tryz.func88, Tryz.ntmps88
    go_wp2
    go_loop [3] (fun i => ∃ k : Nat, k ≤ l.length ∧ i = .int .i64 k ∧ (l.take k).all okByte = true) (fun i => l.length - (intOf i).toNat)
    case atStart => exact ⟨0, Nat.zero_le _, rfl, rfl⟩
    case round =>
      obtain ⟨k, hk, rfl, ha⟩ := hrel
      have HA := Lib.hid ha
      clear ha
      by_cases hlt : k < l.length
      · have HS := Lib.hid (all_take_succ l k hlt)
        cases hok : okByte l[k]
        · have HF := Lib.hid (all_bad hlt hok)
          have hc := okByte_false hok
          clear hok
          rcases hc with hc | hc
          · have hc' : (({ data := l.toArray } : ByteArray)[k]'hlt).toNat = 0 := by show (l[k]).toNat = 0; rw [hc]; rfl
            clear hc
            go_wp2
            go_ret
            exact ⟨ret_bool (by rw [HN.out, HF.out]), rfl⟩
          · have hc' : (({ data := l.toArray } : ByteArray)[k]'hlt).toNat = 47 := by show (l[k]).toNat = 47; rw [hc]; rfl
            clear hc
            go_wp2
            go_ret
            exact ⟨ret_bool (by rw [HN.out, HF.out]), rfl⟩
        · have hc0 : (((({ data := l.toArray } : ByteArray)[k]'hlt).toNat : Int) == 0) = false := (okByte_true hok).1
          have hc1 : (((({ data := l.toArray } : ByteArray)[k]'hlt).toNat : Int) == 47) = false := (okByte_true hok).2
          have HO := Lib.hid hok
          clear hok
          go_wp2
          go_round
          case rel => exact ⟨k + 1, by omega, by go_num, by rw [HS.out, HA.out, HO.out]; rfl⟩
          case measure => simp [intOf]; omega
      · go_wp2
        go_ret
        exact ⟨ret_bool (by rw [HN.out]; have := HA.out; rw [List.take_of_length_le (by omega)] at this; exact this.symm), rfl⟩
end Go.Proofs.YtbmdoekfbkpaeaaGreatDoor

namespace Go.Proofs.YtbmdoekfbkpaeaaGreatDoor
open Go.RowKit

/-- A world that lies over w: what lies in w lies there still. -/
structure LaterOf (w : World) where
  world : World
  below : Below w.heap.size w world

def LaterOf.start (w : World) : LaterOf w := ⟨w, Below.refl _ _⟩
instance (w : World) : Inhabited (LaterOf w) := ⟨LaterOf.start w⟩
theorem LaterOf.cell {w : World} {b o : Nat} {v : Value} (h : w.cell? ⟨b, o, none⟩ = some v) (p : LaterOf w) : p.world.cell? ⟨b, o, none⟩ = some v := cell_below p.below h

theorem wp_region_later {P : Program} {id : Nat} {Q : Exit → Act → World → Prop} {a : Act} {w : World} {l : List Oper} (hm : P.follows .mixedOrders = true) (hB : Region.lexB .any l.toArray = true)
    (h : wpQuiet P l.toArray (fun w' => ∃ p : LaterOf w, w' = p.world) (fun a' => ∀ w', (∃ p : LaterOf w, w' = p.world) → Q .normal a' w') l a) : (Code.region id l.toArray true).wp P Q a w :=
  wp_region_quiet (C := fun w' => ∃ p : LaterOf w, w' = p.world) hm hB ⟨⟨{ w with drawn := w.drawn + 1 }, ⟨rfl, rfl, rfl, Nat.le_refl _, fun _ _ => rfl⟩⟩, rfl⟩ (by simpa using h)

/-- A callee's contract, met in a later world. -/
theorem LaterOf.call {P : Program} {f : FuncId} {args : Array Value} {w : World} {v : Value} (p : LaterOf w)
    (h : Calls P f args p.world fun e w' => e = .returned v ∧ Below p.world.heap.size p.world w') : Calls P f args p.world fun e w'' => e = .returned v ∧ ∃ p' : LaterOf w, w'' = p'.world :=
  h.mono fun _ w' ⟨he, hb⟩ => ⟨he, ⟨w', below_chain p.below hb p.below.size⟩, rfl⟩
theorem LaterOf.still {P : Program} {f : FuncId} {args : Array Value} {w : World} {v : Value} (p : LaterOf w)
    (h : Calls P f args p.world fun e w' => e = .returned v ∧ w' = p.world) : Calls P f args p.world fun e w'' => e = .returned v ∧ ∃ p' : LaterOf w, w'' = p'.world :=
  h.mono fun _ _ ⟨he, hb⟩ => ⟨he, p, hb⟩
end Go.Proofs.YtbmdoekfbkpaeaaGreatDoor
