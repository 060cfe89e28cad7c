/- Nodes and their bytes, in plain words. No program in sight. A node's bytes are read as it. No program in sight. How much a fit node holds. Plain laws of paths: the directory by the last slash, parts and joins. -/
import Derived.Test.YtaompdnnkfmjhaaGreatDoorJRowG
import Derived.Test.YtaompdnnkfmjhaaGreatDoorJPlain
import Derived.Lib.LastIndexByte
namespace Go.Proofs.YtaompdnnkfmjhaaGreatDoor

/-- What was taken stands in the bytes as it is written. -/
theorem takeGo_canon : ∀ (l : List UInt8) (i acc : Nat), i ≤ 9 → (takeGo i acc l).2.2 = 0 → ∃ n k : Nat, (takeGo i acc l).1 = acc + n * 2 ^ (7 * i) ∧ (takeGo i acc l).2.1 = i + k ∧ l.take k = putV n ∧ k ≤ l.length ∧ ¬ (n = 0 ∧ 0 < i)
  | [], i, acc, _, h => by simp [takeGo] at h
  | c :: cs, i, acc, h9, h => by
    unfold takeGo at h ⊢
    have hc := c.toNat_lt
    by_cases h1 : i = 9 ∧ 1 < c.toNat
    · rw [if_pos h1] at h; simp at h
    rw [if_neg h1] at h ⊢
    by_cases h2 : c.toNat < 128
    · rw [if_pos h2] at h ⊢
      by_cases h3 : c.toNat = 0 ∧ 0 < i
      · rw [if_pos h3] at h; simp at h
      · rw [if_neg h3]
        refine ⟨c.toNat, 1, ?_, rfl, ?_, by simp, h3⟩
        · simp only; rw [Nat.mod_eq_of_lt h2]
        · rw [putV_small h2]; simp
    · rw [if_neg h2] at h ⊢
      have hi : i < 9 := by
        rcases Nat.lt_or_ge i 9 with hi | hi
        · exact hi
        · exact absurd ⟨by omega, by omega⟩ h1
      obtain ⟨n, k, q1, q2, q3, q4, q5⟩ := takeGo_canon cs (i + 1) _ (by omega) h
      have hn0 : n ≠ 0 := fun e => q5 ⟨e, by omega⟩
      refine ⟨c.toNat % 128 + 128 * n, k + 1, ?_, ?_, ?_, by simp; omega, by omega⟩
      · rw [q1, Nat.add_mul, show 7 * (i + 1) = 7 * i + 7 by omega, Nat.pow_add, Nat.add_assoc]
        congr 1
        rw [show 128 * n * 2 ^ (7 * i) = n * (2 ^ (7 * i) * 2 ^ 7) by rw [show (2 : Nat) ^ 7 = 128 by rfl, Nat.mul_comm 128 n, Nat.mul_assoc, Nat.mul_comm 128]]
      · rw [q2]; omega
      · rw [List.take_succ_cons, q3, putV_big (n := c.toNat % 128 + 128 * n) (by omega)]
        congr 1
        · apply UInt8.toNat_inj.1
          rw [UInt8.toNat_ofNat']
          omega
        · congr 1; omega
theorem takeV_canon {l : List UInt8} (h : (takeV l).2.2 = 0) : l = putV (takeV l).1 ++ l.drop (takeV l).2.1 := by
  obtain ⟨n, k, q1, q2, q3, q4, _⟩ := takeGo_canon l 0 0 (by omega) h
  have e1 : (takeV l).1 = n := by show (takeGo 0 0 l).1 = n; rw [q1]; simp
  have e2 : (takeV l).2.1 = k := by show (takeGo 0 0 l).2.1 = k; rw [q2]; omega
  rw [e1, e2, ← q3, List.take_append_drop]
theorem takeText_canon {l : List UInt8} (h : (takeText l).2.2 = 0) : l = putText (takeText l).1 ++ l.drop (takeText l).2.1 ∧ (takeText l).1.length ≤ 65536 := by
  unfold takeText at h ⊢
  by_cases h1 : (takeV l).2.2 ≠ 0
  · rw [if_pos h1] at h; exact absurd h h1
  rw [if_neg h1] at h ⊢
  by_cases h2 : 65536 < (takeV l).1
  · rw [if_pos h2] at h; simp at h
  rw [if_neg h2] at h ⊢
  by_cases h3 : l.length - (takeV l).2.1 < (takeV l).1
  · rw [if_pos h3] at h; simp at h
  rw [if_neg h3]
  have hc := takeV_canon (l := l) (by simpa using h1)
  have hk := (takeV_ok (l := l) (by simpa using h1)).1
  simp only
  generalize (takeV l).1 = n at *
  generalize (takeV l).2.1 = k at *
  have hcl : (cutL l k (k + n)).length = n := by simp only [cutL, List.length_drop, List.length_take]; omega
  refine ⟨?_, by omega⟩
  unfold putText
  rw [if_neg (by omega), hcl]
  have h4 : l.drop k = cutL l k (k + n) ++ l.drop (k + n) := by
    have h5 : (l.drop k).take n = cutL l k (k + n) := by simp only [cutL]; rw [List.drop_take]; congr 1; omega
    rw [← h5, show l.drop (k + n) = (l.drop k).drop n by rw [List.drop_drop], List.take_append_drop]
  rw [List.append_assoc, ← h4]
  exact hc

abbrev Prt := List UInt8 × Int
/-- A directory's entry: its name, its kind, whether it can be run, its key. -/
abbrev Ent := List UInt8 × Int × Bool × List UInt8
structure Nod where
  kind : Int
  data : List UInt8
  parts : List Prt
  ents : List Ent
def zNod : Nod := ⟨0, [], [], []⟩
def partOk (p : Prt) : Bool := p.1.length == 32 && (decide (1 ≤ p.2) && decide (p.2 ≤ 4096))
def wholeP (l : List Prt) : Int := (l.map (·.2)).sum
def entOk (e : Ent) : Bool := (e.2.1 == 2 || e.2.1 == 3 && !e.2.2.1) && (e.2.2.2.length == 32 && nameB e.1)
def risesE (l : List Ent) : Prop := (l.map (·.1)).Pairwise (· < ·)
structure FitFile (l : List Prt) : Prop where
  len : l.length ≤ 1024
  ok : ∀ p ∈ l, partOk p = true
  whole : wholeP l ≤ 32768
structure FitDir (l : List Ent) : Prop where
  len : l.length ≤ 60
  ok : ∀ e ∈ l, entOk e = true
  rises : risesE l
def FitN (n : Nod) : Prop :=
  (n.kind = 1 ∧ n.data ≠ [] ∧ n.data.length ≤ 4096 ∧ n.parts = [] ∧ n.ents = []) ∨ (n.kind = 2 ∧ n.data = [] ∧ n.ents = [] ∧ FitFile n.parts) ∨ (n.kind = 3 ∧ n.data = [] ∧ n.parts = [] ∧ FitDir n.ents)
noncomputable def fitN (n : Nod) : Bool := @decide (FitN n) (Classical.propDecidable _)
theorem fitN_iff {n : Nod} : fitN n = true ↔ FitN n := by unfold fitN; exact @decide_eq_true_iff _ (Classical.propDecidable _)
theorem fitN_no {n : Nod} (h : ¬ FitN n) : fitN n = false := by
  cases e : fitN n with
  | false => rfl
  | true => exact absurd (fitN_iff.1 e) h
def partW (p : Prt) : List UInt8 := p.1 ++ putV p.2.toNat
def kindW (e : Ent) : UInt8 := UInt8.ofNat (e.2.1.toNat + if e.2.2.1 = true then 4 else 0)
def entW (e : Ent) : List UInt8 := putText e.1 ++ [kindW e] ++ e.2.2.2
def bodyN (n : Nod) : List UInt8 := if n.kind = 1 then n.data else if n.kind = 2 then putV n.parts.length ++ n.parts.flatMap partW else putV n.ents.length ++ n.ents.flatMap entW
noncomputable def writeN (n : Nod) : List UInt8 := if fitN n = true then UInt8.ofNat n.kind.toNat :: bodyN n else []

/-! What bytes begin with, and the rest. -/
def cutR (n : Nat) (s : List UInt8) : Option (List UInt8 × List UInt8) := if s.length < n then none else some (s.take n, s.drop n)
def numR (most : Nat) (s : List UInt8) : Option (Nat × List UInt8) := if (takeV s).2.2 ≠ 0 ∨ most < (takeV s).1 then none else some ((takeV s).1, s.drop (takeV s).2.1)
def textR (s : List UInt8) : Option (List UInt8 × List UInt8) := if (takeText s).2.2 ≠ 0 then none else some ((takeText s).1, s.drop (takeText s).2.1)
def kindB (c : UInt8) : Nat := c.toNat - 4 * (c.toNat / 4 % 2)
def execB (c : UInt8) : Bool := c.toNat / 4 % 2 == 1
def partR (s : List UInt8) : Option (Prt × List UInt8) :=
  match cutR 32 s with
  | none => none
  | some (k, s1) => match numR 4096 s1 with
    | none => none
    | some (n, s2) => some ((k, (n : Int)), s2)
def entR (s : List UInt8) : Option (Ent × List UInt8) :=
  match textR s with
  | none => none
  | some (t, s1) => match s1 with
    | [] => none
    | c :: s2 => match cutR 32 s2 with
      | none => none
      | some (k, s3) => some ((t, (kindB c : Int), execB c, k), s3)
def manyR {α : Type} (r : List UInt8 → Option (α × List UInt8)) : Nat → List UInt8 → Option (List α × List UInt8)
  | 0, s => some ([], s)
  | n + 1, s => match r s with
    | none => none
    | some (x, s1) => match manyR r n s1 with
      | none => none
      | some (l, s2) => some (x :: l, s2)
def listR {α : Type} (r : List UInt8 → Option (α × List UInt8)) (s : List UInt8) : Option (List α × List UInt8) :=
  match numR 1024 s with
  | none => none
  | some (n, s1) => manyR r n s1
def parseN : List UInt8 → Option (Nod × List UInt8)
  | [] => none
  | c :: s => if c.toNat = 1 then some (⟨1, s, [], []⟩, []) else if c.toNat = 2 then (match listR partR s with | none => none | some (l, r) => some (⟨2, [], l, []⟩, r))
    else if c.toNat = 3 then (match listR entR s with | none => none | some (l, r) => some (⟨3, [], [], l⟩, r)) else none
noncomputable def readN (s : List UInt8) : Nod × Int :=
  match parseN s with
  | none => (zNod, 2)
  | some (n, r) => if r = [] ∧ fitN n = true then (n, 0) else (zNod, 2)

theorem parseN_cons (c : UInt8) (s : List UInt8) : parseN (c :: s) = if c.toNat = 1 then some (⟨1, s, [], []⟩, []) else if c.toNat = 2 then (match listR partR s with | none => none | some (l, r) => some (⟨2, [], l, []⟩, r))
    else if c.toNat = 3 then (match listR entR s with | none => none | some (l, r) => some (⟨3, [], [], l⟩, r)) else none := rfl
theorem cutR_some {n : Nat} {s a r : List UInt8} (h : cutR n s = some (a, r)) : s = a ++ r ∧ a.length = n := by
  unfold cutR at h
  split at h
  · cases h
  · cases h
    exact ⟨(List.take_append_drop _ _).symm, by rw [List.length_take]; omega⟩
theorem numR_some {m n : Nat} {s r : List UInt8} (h : numR m s = some (n, r)) : s = putV n ++ r ∧ n ≤ m := by
  unfold numR at h
  split at h
  · cases h
  · rename_i hn
    cases h
    exact ⟨takeV_canon (by apply Classical.byContradiction; intro e; exact hn (.inl e)), by omega⟩
theorem textR_some {s t r : List UInt8} (h : textR s = some (t, r)) : s = putText t ++ r := by
  unfold textR at h
  split at h
  · cases h
  · rename_i hn
    cases h
    exact (takeText_canon (by apply Classical.byContradiction; intro e; exact hn e)).1
theorem partR_some {s r : List UInt8} {p : Prt} (h : partR s = some (p, r)) : s = partW p ++ r := by
  unfold partR at h
  cases h1 : cutR 32 s with
  | none => rw [h1] at h; cases h
  | some q =>
    obtain ⟨k, s1⟩ := q
    rw [h1] at h
    simp only at h
    cases h2 : numR 4096 s1 with
    | none => rw [h2] at h; cases h
    | some q =>
      obtain ⟨n, s2⟩ := q
      rw [h2] at h
      simp only [Option.some.injEq, Prod.mk.injEq] at h
      obtain ⟨rfl, rfl⟩ := h
      rw [(cutR_some h1).1, (numR_some h2).1]
      simp [partW]
theorem kind_back {c : UInt8} (_h : kindB c = 2 ∨ kindB c = 3) : UInt8.ofNat (kindB c + if execB c = true then 4 else 0) = c := by
  apply UInt8.toNat_inj.1
  rw [UInt8.toNat_ofNat']
  unfold kindB execB at *
  have := c.toNat_lt
  by_cases e : c.toNat / 4 % 2 = 1
  · rw [if_pos (by simpa using e)]; omega
  · rw [if_neg (by simpa using e)]; omega
theorem entR_some {s r : List UInt8} {e : Ent} (h : entR s = some (e, r)) (hk : entOk e = true) : s = entW e ++ r := by
  unfold entR at h
  cases h1 : textR s with
  | none => rw [h1] at h; cases h
  | some q =>
    obtain ⟨t, s1⟩ := q
    rw [h1] at h
    simp only at h
    cases s1 with
    | nil => cases h
    | cons c s2 =>
      simp only at h
      cases h2 : cutR 32 s2 with
      | none => rw [h2] at h; cases h
      | some q =>
        obtain ⟨k, s3⟩ := q
        rw [h2] at h
        simp only [Option.some.injEq, Prod.mk.injEq] at h
        obtain ⟨rfl, rfl⟩ := h
        have hkk : kindB c = 2 ∨ kindB c = 3 := by
          unfold entOk at hk
          simp only [Bool.and_eq_true, Bool.or_eq_true, beq_iff_eq] at hk
          rcases hk.1 with h | ⟨h, _⟩ <;> omega
        have hb := kind_back hkk
        rw [textR_some h1]
        unfold entW kindW
        simp only [Int.toNat_natCast]
        rw [hb, (cutR_some h2).1]
        simp
theorem manyR_some {α : Type} {rd : List UInt8 → Option (α × List UInt8)} {wr : α → List UInt8} {ok : α → Prop} (hr : ∀ s x r, rd s = some (x, r) → ok x → s = wr x ++ r) :
    ∀ (n : Nat) (s r : List UInt8) (l : List α), manyR rd n s = some (l, r) → (∀ x ∈ l, ok x) → s = l.flatMap wr ++ r ∧ l.length = n
  | 0, s, r, l, h, _ => by cases h; exact ⟨rfl, rfl⟩
  | n + 1, s, r, l, h, hok => by
    unfold manyR at h
    cases h1 : rd s with
    | none => rw [h1] at h; cases h
    | some q =>
      obtain ⟨x, s1⟩ := q
      rw [h1] at h
      simp only at h
      cases h2 : manyR rd n s1 with
      | none => rw [h2] at h; cases h
      | some q =>
        obtain ⟨l2, s2⟩ := q
        rw [h2] at h
        simp only [Option.some.injEq, Prod.mk.injEq] at h
        obtain ⟨rfl, rfl⟩ := h
        obtain ⟨e1, e2⟩ := manyR_some hr n s1 s2 l2 h2 (fun y hy => hok y (List.mem_cons_of_mem _ hy))
        refine ⟨?_, by simp [e2]⟩
        rw [hr _ _ _ h1 (hok x List.mem_cons_self), e1]
        simp
theorem listR_some {α : Type} {rd : List UInt8 → Option (α × List UInt8)} {wr : α → List UInt8} {ok : α → Prop} (hr : ∀ s x r, rd s = some (x, r) → ok x → s = wr x ++ r)
    {s r : List UInt8} {l : List α} (h : listR rd s = some (l, r)) (hok : ∀ x ∈ l, ok x) : s = putV l.length ++ l.flatMap wr ++ r := by
  unfold listR at h
  cases h1 : numR 1024 s with
  | none => rw [h1] at h; cases h
  | some q =>
    obtain ⟨n, s1⟩ := q
    rw [h1] at h
    obtain ⟨e1, e2⟩ := manyR_some hr n s1 r l h hok
    rw [(numR_some h1).1, e2, List.append_assoc, ← e1]
/-- What was read as a node that can be is what it is written as, and the rest. -/
theorem parseN_some {s r : List UInt8} {n : Nod} (h : parseN s = some (n, r)) (hf : FitN n) : s = writeN n ++ r := by
  unfold writeN
  rw [if_pos (fitN_iff.2 hf)]
  cases s with
  | nil => cases h
  | cons c s =>
    rw [parseN_cons] at h
    have hc : ∀ k : Nat, c.toNat = k → UInt8.ofNat k = c := fun k e => by rw [← e]; exact UInt8.ofNat_toNat
    split at h
    · rename_i h1
      cases h
      unfold bodyN
      rw [if_pos rfl]
      show c :: s = UInt8.ofNat 1 :: s ++ []
      rw [hc 1 h1, List.append_nil]
    · split at h
      · rename_i h1
        cases h2 : listR partR s with
        | none => rw [h2] at h; cases h
        | some q =>
          obtain ⟨l, r2⟩ := q
          rw [h2] at h
          cases h
          unfold bodyN
          simp only
          rw [if_neg (by decide), if_pos trivial]
          show c :: s = UInt8.ofNat 2 :: (putV l.length ++ l.flatMap partW) ++ r
          rw [hc 2 h1, listR_some (rd := partR) (wr := partW) (ok := fun _ => True) (fun s x r h _ => partR_some h) h2 (fun _ _ => trivial)]
          rfl
      · split at h
        · rename_i h1
          cases h2 : listR entR s with
          | none => rw [h2] at h; cases h
          | some q =>
            obtain ⟨l, r2⟩ := q
            rw [h2] at h
            cases h
            have hok : ∀ e ∈ l, entOk e = true := by
              rcases hf with ⟨h3, _⟩ | ⟨h3, _⟩ | ⟨_, _, _, h4⟩
              · cases h3
              · cases h3
              · exact h4.ok
            unfold bodyN
            simp only
            rw [if_neg (by decide), if_neg (by decide)]
            show c :: s = UInt8.ofNat 3 :: (putV l.length ++ l.flatMap entW) ++ r
            rw [hc 3 h1, listR_some (rd := entR) (wr := entW) (ok := fun e => entOk e = true) (fun s x r h hk => entR_some h hk) h2 hok]
            rfl
        · cases h
theorem readN_some {s r : List UInt8} {n : Nod} (h : parseN s = some (n, r)) (hf : FitN n) : (r = [] ↔ writeN n = s) := by
  have h1 := parseN_some h hf
  constructor
  · rintro rfl; rw [h1, List.append_nil]
  · intro e
    rw [e] at h1
    have := congrArg List.length h1
    rw [List.length_append] at this
    exact List.eq_nil_of_length_eq_zero (by omega)
end Go.Proofs.YtaompdnnkfmjhaaGreatDoor

namespace Go.Proofs.YtaompdnnkfmjhaaGreatDoor

theorem cutR_app {a : List UInt8} {n : Nat} (h : a.length = n) (r : List UInt8) : cutR n (a ++ r) = some (a, r) := by
  unfold cutR
  rw [if_neg (by rw [List.length_append]; omega), List.take_append_of_le_length (by omega), List.take_of_length_le (by omega), List.drop_append_of_le_length (by omega), List.drop_of_length_le (by omega)]
  rfl
theorem numR_put {n m : Nat} (h : n ≤ m) (hm : m < 2 ^ 64) (r : List UInt8) : numR m (putV n ++ r) = some (n, r) := by
  unfold numR
  rw [takeV_put (by omega)]
  simp only
  rw [if_neg (by simp; omega)]
  simp
theorem textR_put {t : List UInt8} (h : t.length ≤ 65536) (r : List UInt8) : textR (putText t ++ r) = some (t, r) := by
  unfold textR
  rw [takeText_put h]
  simp
theorem partR_put {p : Prt} (h : partOk p = true) (r : List UInt8) : partR (partW p ++ r) = some (p, r) := by
  obtain ⟨k, z⟩ := p
  unfold partOk at h
  simp only [Bool.and_eq_true, beq_iff_eq, decide_eq_true_eq] at h
  unfold partR partW
  simp only
  rw [List.append_assoc, cutR_app h.1]
  simp only
  rw [numR_put (n := z.toNat) (by omega) (by omega)]
  simp only
  rw [show ((z.toNat : Nat) : Int) = z by omega]
theorem entOk_parts {e : Ent} (h : entOk e = true) : (e.2.1 = 2 ∨ e.2.1 = 3 ∧ e.2.2.1 = false) ∧ e.2.2.2.length = 32 ∧ nameB e.1 = true := by
  unfold entOk at h
  simp only [Bool.and_eq_true, Bool.or_eq_true, beq_iff_eq, Bool.not_eq_true'] at h
  exact ⟨h.1, h.2.1, h.2.2⟩
theorem entR_put {e : Ent} (h : entOk e = true) (r : List UInt8) : entR (entW e ++ r) = some (e, r) := by
  obtain ⟨hk, hl, hn⟩ := entOk_parts h
  obtain ⟨t, k, x, key⟩ := e
  simp only at hk hl hn
  have hb : (kindB (kindW (t, k, x, key)) : Int) = k ∧ execB (kindW (t, k, x, key)) = x := by
    rcases hk with rfl | ⟨rfl, rfl⟩
    · cases x
      · rw [show kindW (t, 2, false, key) = 2 from rfl]; exact ⟨by decide, by decide⟩
      · rw [show kindW (t, 2, true, key) = 6 from rfl]; exact ⟨by decide, by decide⟩
    · rw [show kindW (t, 3, false, key) = 3 from rfl]; exact ⟨by decide, by decide⟩
  unfold entR
  have e1 : entW (t, k, x, key) ++ r = putText t ++ (kindW (t, k, x, key) :: (key ++ r)) := by simp [entW]
  rw [e1, textR_put (by have := nameB_len hn; omega)]
  simp only
  rw [cutR_app hl]
  simp only
  rw [hb.1, hb.2]
theorem manyR_put {α : Type} {rd : List UInt8 → Option (α × List UInt8)} {wr : α → List UInt8} {ok : α → Prop} (hr : ∀ x r, ok x → rd (wr x ++ r) = some (x, r)) :
    ∀ (l : List α) (r : List UInt8), (∀ x ∈ l, ok x) → manyR rd l.length (l.flatMap wr ++ r) = some (l, r)
  | [], r, _ => rfl
  | x :: l, r, h => by
    rw [List.length_cons, List.flatMap_cons, List.append_assoc]
    unfold manyR
    rw [hr x _ (h x List.mem_cons_self)]
    simp only
    rw [manyR_put hr l r (fun y hy => h y (List.mem_cons_of_mem _ hy))]
theorem listR_put {α : Type} {rd : List UInt8 → Option (α × List UInt8)} {wr : α → List UInt8} {ok : α → Prop} (hr : ∀ x r, ok x → rd (wr x ++ r) = some (x, r))
    {l : List α} (hl : l.length ≤ 1024) (h : ∀ x ∈ l, ok x) : listR rd (putV l.length ++ l.flatMap wr) = some (l, []) := by
  unfold listR
  rw [numR_put hl (by decide)]
  simp only
  have := manyR_put hr l [] h
  rwa [List.append_nil] at this
theorem parse_write {n : Nod} (hf : FitN n) : parseN (writeN n) = some (n, []) := by
  unfold writeN
  rw [if_pos (fitN_iff.2 hf)]
  obtain ⟨k, d, ps, es⟩ := n
  rcases hf with ⟨h1, h2, h3, h4, h5⟩ | ⟨h1, h2, h3, h4⟩ | ⟨h1, h2, h3, h4⟩
  · simp only at h1 h4 h5
    subst h1 h4 h5
    rfl
  · simp only at h1 h2 h3 h4
    subst h1 h2 h3
    unfold bodyN
    simp only
    rw [if_neg (by decide), if_pos trivial]
    show parseN (UInt8.ofNat 2 :: _) = _
    rw [parseN_cons, if_neg (by decide), if_pos (by decide), listR_put (ok := fun p => partOk p = true) (fun x r h => partR_put h r) h4.len h4.ok]
  · simp only at h1 h2 h3 h4
    subst h1 h2 h3
    unfold bodyN
    simp only
    rw [if_neg (by decide), if_neg (by decide)]
    show parseN (UInt8.ofNat 3 :: _) = _
    rw [parseN_cons, if_neg (by decide), if_neg (by decide), if_pos (by decide), listR_put (ok := fun e => entOk e = true) (fun x r h => entR_put h r) (by have := h4.len; omega) h4.ok]
theorem read_write {n : Nod} (hf : FitN n) : readN (writeN n) = (n, 0) := by
  unfold readN
  rw [parse_write hf]
  simp only
  rw [if_pos (by simp [fitN_iff.2 hf])]
theorem read_ok {s : List UInt8} {n : Nod} (h : readN s = (n, 0)) : FitN n ∧ writeN n = s := by
  unfold readN at h
  cases hp : parseN s with
  | none => rw [hp] at h; cases h
  | some q =>
    obtain ⟨m, r⟩ := q
    rw [hp] at h
    simp only at h
    split at h
    · rename_i hc
      cases h
      have hf := fitN_iff.1 hc.2
      exact ⟨hf, (readN_some hp hf).1 hc.1⟩
    · cases h
theorem read_or (s : List UInt8) : (∃ n, readN s = (n, 0)) ∨ readN s = (zNod, 2) := by
  unfold readN
  cases parseN s with
  | none => exact .inr rfl
  | some q =>
    obtain ⟨m, r⟩ := q
    simp only
    split
    · exact .inl ⟨_, rfl⟩
    · exact .inr rfl
end Go.Proofs.YtaompdnnkfmjhaaGreatDoor

namespace Go.Proofs.YtaompdnnkfmjhaaGreatDoor

theorem fit_sizes {n : Nod} (hf : FitN n) : n.parts.length ≤ 1024 ∧ n.ents.length ≤ 60 ∧ n.data.length ≤ 4096 ∧ (∀ p ∈ n.parts, partOk p = true) ∧ (∀ e ∈ n.ents, entOk e = true) ∧ 1 ≤ n.kind ∧ n.kind ≤ 3 := by
  rcases hf with ⟨h1, h2, h3, h4, h5⟩ | ⟨h1, h2, h3, h4⟩ | ⟨h1, h2, h3, h4⟩
  · rw [h4, h5]; exact ⟨by simp, by simp, h3, by simp, by simp, by omega, by omega⟩
  · rw [h2, h3]; exact ⟨h4.len, by simp, by simp, h4.ok, by simp, by omega, by omega⟩
  · rw [h2, h3]; exact ⟨by simp, h4.len, by simp, by simp, h4.ok, by omega, by omega⟩
end Go.Proofs.YtaompdnnkfmjhaaGreatDoor

namespace Go.Proofs.YtaompdnnkfmjhaaGreatDoor

theorem partsL_snoc : ∀ (a t : List UInt8), (∀ c ∈ t, c ≠ 47) → partsL (a ++ 47 :: t) = partsL a ++ [t]
  | [], t, h => by
    show partsL (47 :: t) = [[]] ++ [t]
    rw [partsL, if_pos rfl, partsL_noslash t h]; rfl
  | c :: a, t, h => by
    have ih := partsL_snoc a t h
    show partsL (c :: (a ++ 47 :: t)) = _
    rw [partsL, partsL]
    by_cases hc : c = 47
    · rw [if_pos hc, if_pos hc, ih]; rfl
    · rw [if_neg hc, if_neg hc, ih]
      cases hp : partsL a with
      | nil => exact absurd hp (partsL_ne a)
      | cons p ps => rfl

theorem joinS_cons (c : UInt8) (p : List UInt8) (ps : List (List UInt8)) : joinS ((c :: p) :: ps) = c :: joinS (p :: ps) := by
  cases ps <;> rfl
theorem joinS_nil (ps : List (List UInt8)) (h : ps ≠ []) : joinS ([] :: ps) = 47 :: joinS ps := by
  cases ps with
  | nil => exact absurd rfl h
  | cons p ps => rfl

theorem joinS_parts : ∀ l : List UInt8, joinS (partsL l) = l
  | [] => rfl
  | c :: t => by
    have ih := joinS_parts t
    unfold partsL
    split
    · rename_i h; rw [joinS_nil _ (partsL_ne t), ih, h]
    · cases hp : partsL t with
      | nil => exact absurd hp (partsL_ne t)
      | cons p ps => rw [hp] at ih; show joinS ((c :: p) :: ps) = _; rw [joinS_cons, ih]

theorem fitB_iff (l : List UInt8) : fitB l = true ↔ (partsL l).length ≤ 8 ∧ (partsL l).all nameB = true := by
  unfold fitB splitL
  have := List.length_pos_iff.2 (partsL_ne l)
  split <;> simp_all
theorem splitL_fit {l : List UInt8} (h : fitB l = true) : splitL l = partsL l := by
  unfold splitL; rw [if_pos ((fitB_iff l).1 h)]
theorem splitL_unfit {l : List UInt8} (h : fitB l = false) : splitL l = [] := by
  unfold fitB at h; simpa using h

theorem dirL_unfit {l : List UInt8} (h : fitB l = false) : dirL l = [] := by
  unfold dirL; rw [splitL_unfit h]; rfl
theorem dirL_noslash {l : List UInt8} (h : ∀ c ∈ l, c ≠ 47) : dirL l = [] := by
  unfold dirL splitL
  rw [partsL_noslash l h]
  split <;> rfl
theorem nameB_nil : nameB [] = false := rfl
theorem dirL_slash {a t : List UInt8} (h : ∀ c ∈ t, c ≠ 47) (hf : fitB (a ++ 47 :: t) = true) : dirL (a ++ 47 :: t) = a ∧ a ≠ [] := by
  have hp := partsL_snoc a t h
  have hs := splitL_fit hf
  obtain ⟨h1, h2⟩ := (fitB_iff _).1 hf
  have hl := List.length_pos_iff.2 (partsL_ne a)
  rw [hp] at h1 h2 hs
  rw [List.all_append, Bool.and_eq_true] at h2
  simp only [List.length_append, List.length_cons, List.length_nil] at h1
  constructor
  · unfold dirL
    rw [hs, if_neg (by simp; omega)]
    have : (partsL a ++ [t]).take ((partsL a ++ [t]).length - 1) = partsL a := by simp
    rw [this]
    unfold joinL
    rw [if_pos ⟨by omega, h2.1⟩, joinS_parts]
  · rintro rfl
    simp [partsL, nameB_nil] at h2

/-- The last slash. -/
theorem lastSlash (l : List UInt8) :
    (Lib.lastIndexByte ⟨l.toArray⟩ 47 = -1 ∧ ∀ c ∈ l, c ≠ 47) ∨
    (∃ i : Nat, ∃ _ : i < l.length, Lib.lastIndexByte ⟨l.toArray⟩ 47 = i ∧ l = l.take i ++ 47 :: l.drop (i + 1) ∧ ∀ c ∈ l.drop (i + 1), c ≠ 47) := by
  have hne : ∀ j (hj : j < l.length), ((((⟨l.toArray⟩ : ByteArray).data[j]!).toNat : Int) ≠ 47) → l[j] ≠ 47 := by
    intro j hj h e
    apply h
    rw [getElem!_pos (⟨l.toArray⟩ : ByteArray).data j (by simpa using hj)]
    simp [e]
  rcases Lib.lastIndexByte_spec ⟨l.toArray⟩ 47 with ⟨h1, h2⟩ | ⟨i, hi, h1, h2, h3⟩
  · refine .inl ⟨h1, fun c hc => ?_⟩
    obtain ⟨j, hj, rfl⟩ := List.mem_iff_getElem.1 hc
    exact hne j hj (h2 j hj)
  · have hi' : i < l.length := hi
    refine .inr ⟨i, hi', h1, ?_, ?_⟩
    · have : l[i] = 47 := by
        rw [getElem!_pos (⟨l.toArray⟩ : ByteArray).data i (by simpa using hi')] at h2
        apply UInt8.toNat_inj.1
        simp at h2 ⊢; omega
      rw [← this, ← List.drop_eq_getElem_cons hi', List.take_append_drop]
    · intro c hc
      obtain ⟨j, hj, rfl⟩ := List.mem_iff_getElem.1 hc
      rw [List.getElem_drop]
      simp at hj
      exact hne _ (by omega) (h3 _ (by omega) (by show _ < l.length; omega))

/-! How two paths stand (P9.5). -/
theorem cmpParts_self : ∀ xs : List (List UInt8), cmpParts xs xs = 0
  | [] => rfl
  | a :: x => by rw [cmpParts, if_neg (List.lt_irrefl a), if_neg (List.lt_irrefl a), cmpParts_self x]
theorem cmpParts_anti : ∀ xs ys : List (List UInt8), cmpParts ys xs = -cmpParts xs ys
  | [], [] => rfl
  | [], _ :: _ => rfl
  | _ :: _, [] => rfl
  | a :: x, b :: y => by
    have ih := cmpParts_anti x y
    rw [cmpParts, cmpParts]
    rcases lt_or_eq_or_gt a b with h | h | h
    · rw [if_neg (List.not_lt.2 (List.le_of_lt h)), if_pos h, if_pos h]; rfl
    · subst h; rw [if_neg (List.lt_irrefl a), if_neg (List.lt_irrefl a), if_neg (List.lt_irrefl a), if_neg (List.lt_irrefl a), ih]
    · rw [if_pos h, if_neg (List.not_lt.2 (List.le_of_lt h)), if_pos h]
theorem cmpParts_eq : ∀ xs ys : List (List UInt8), cmpParts xs ys = 0 → xs = ys
  | [], [], _ => rfl
  | [], _ :: _, h => by cases h
  | _ :: _, [], h => by cases h
  | a :: x, b :: y, h => by
    rw [cmpParts] at h
    rcases lt_or_eq_or_gt a b with h1 | h1 | h1
    · rw [if_pos h1] at h; cases h
    · subst h1; rw [if_neg (List.lt_irrefl a), if_neg (List.lt_irrefl a)] at h; rw [cmpParts_eq x y h]
    · rw [if_neg (List.not_lt.2 (List.le_of_lt h1)), if_pos h1] at h; cases h
theorem cmpParts_cases : ∀ xs ys : List (List UInt8), cmpParts xs ys = -1 ∨ cmpParts xs ys = 0 ∨ cmpParts xs ys = 1
  | [], [] => .inr (.inl rfl)
  | [], _ :: _ => .inl rfl
  | _ :: _, [] => .inr (.inr rfl)
  | a :: x, b :: y => by
    have ih := cmpParts_cases x y
    rw [cmpParts]
    split
    · exact .inl rfl
    · split
      · exact .inr (.inr rfl)
      · exact ih
theorem cmpParts_trans : ∀ xs ys zs : List (List UInt8), cmpParts xs ys = -1 → cmpParts ys zs = -1 → cmpParts xs zs = -1
  | [], [], _, h, _ => by cases h
  | [], _ :: _, [], _, h => by cases h
  | [], _ :: _, _ :: _, _, _ => rfl
  | _ :: _, [], _, h, _ => by cases h
  | _ :: _, _ :: _, [], _, h => by cases h
  | a :: x, b :: y, c :: z, h1, h2 => by
    have ih := cmpParts_trans x y z
    rw [cmpParts] at h1 h2 ⊢
    rcases lt_or_eq_or_gt a b with h | h | h
    · rcases lt_or_eq_or_gt b c with h' | h' | h'
      · rw [if_pos (List.lt_trans h h')]
      · subst h'; rw [if_pos h]
      · rw [if_neg (List.not_lt.2 (List.le_of_lt h')), if_pos h'] at h2; cases h2
    · subst h
      rw [if_neg (List.lt_irrefl a), if_neg (List.lt_irrefl a)] at h1
      rcases lt_or_eq_or_gt a c with h' | h' | h'
      · rw [if_pos h']
      · subst h'
        rw [if_neg (List.lt_irrefl a), if_neg (List.lt_irrefl a)] at h2 ⊢
        exact ih h1 h2
      · rw [if_neg (List.not_lt.2 (List.le_of_lt h')), if_pos h'] at h2; cases h2
    · rw [if_neg (List.not_lt.2 (List.le_of_lt h)), if_pos h] at h1; cases h1
theorem cmpParts_append : ∀ xs ys : List (List UInt8), ys ≠ [] → cmpParts xs (xs ++ ys) = -1
  | [], [], h => absurd rfl h
  | [], _ :: _, _ => rfl
  | a :: x, ys, h => by
    show cmpParts (a :: x) (a :: (x ++ ys)) = -1
    rw [cmpParts, if_neg (List.lt_irrefl a), if_neg (List.lt_irrefl a), cmpParts_append x ys h]
theorem cmpParts_less : ∀ xs zs : List (List UInt8), cmpParts xs zs = -1 → (∃ ys, ys ≠ [] ∧ zs = xs ++ ys) ∨ ∀ us, cmpParts (xs ++ us) zs = -1
  | [], [], h => by cases h
  | [], z :: zs, _ => .inl ⟨z :: zs, by simp, rfl⟩
  | _ :: _, [], h => by cases h
  | a :: x, b :: z, h => by
    rw [cmpParts] at h
    rcases lt_or_eq_or_gt a b with h' | h' | h'
    · right
      intro us
      show cmpParts (a :: (x ++ us)) (b :: z) = -1
      rw [cmpParts, if_pos h']
    · subst h'
      rw [if_neg (List.lt_irrefl a), if_neg (List.lt_irrefl a)] at h
      rcases cmpParts_less x z h with ⟨ys, h1, h2⟩ | h1
      · exact .inl ⟨ys, h1, by rw [h2]; rfl⟩
      · right
        intro us
        show cmpParts (a :: (x ++ us)) (a :: z) = -1
        rw [cmpParts, if_neg (List.lt_irrefl a), if_neg (List.lt_irrefl a), h1]
    · rw [if_neg (List.not_lt.2 (List.le_of_lt h')), if_pos h'] at h; cases h

theorem partsL_append : ∀ a c : List UInt8, partsL (a ++ 47 :: c) = partsL a ++ partsL c
  | [], c => by
    show partsL (47 :: c) = [[]] ++ partsL c
    rw [partsL, if_pos rfl]; rfl
  | x :: a, c => by
    have ih := partsL_append a c
    show partsL (x :: (a ++ 47 :: c)) = _
    rw [partsL, partsL]
    by_cases hx : x = 47
    · rw [if_pos hx, if_pos hx, ih]; rfl
    · rw [if_neg hx, if_neg hx, ih]
      cases hp : partsL a with
      | nil => exact absurd hp (partsL_ne a)
      | cons p ps => rfl
theorem joinS_append : ∀ xs ys : List (List UInt8), xs ≠ [] → ys ≠ [] → joinS (xs ++ ys) = joinS xs ++ 47 :: joinS ys
  | [], _, h, _ => absurd rfl h
  | [a], [], _, h => absurd rfl h
  | [a], y :: ys, _, _ => rfl
  | a :: b :: t, ys, _, h => by
    have ih := joinS_append (b :: t) ys (by simp) h
    show a ++ 47 :: joinS (b :: t ++ ys) = (a ++ 47 :: joinS (b :: t)) ++ 47 :: joinS ys
    rw [ih]; simp

theorem orderL_self (l : List UInt8) : orderL l l = 0 := cmpParts_self _
theorem orderL_anti (l m : List UInt8) : orderL m l = -orderL l m := cmpParts_anti _ _
theorem orderL_eq {l m : List UInt8} (h : orderL l m = 0) : l = m := by
  have := cmpParts_eq _ _ h
  rw [← joinS_parts l, ← joinS_parts m, this]
theorem orderL_cases (l m : List UInt8) : orderL l m = -1 ∨ orderL l m = 0 ∨ orderL l m = 1 := cmpParts_cases _ _
theorem orderL_trans {a b c : List UInt8} (h1 : orderL a b = -1) (h2 : orderL b c = -1) : orderL a c = -1 := cmpParts_trans _ _ _ h1 h2
theorem orderL_below (a c : List UInt8) : orderL a (a ++ 47 :: c) = -1 := by
  unfold orderL; rw [partsL_append]; exact cmpParts_append _ _ (partsL_ne c)
theorem orderL_between {a b : List UInt8} (c : List UInt8) (h : orderL a b = -1) : (∃ t, b = a ++ 47 :: t) ∨ orderL (a ++ 47 :: c) b = -1 := by
  rcases cmpParts_less _ _ h with ⟨ys, h1, h2⟩ | h1
  · left
    have := congrArg joinS h2
    rw [joinS_parts, joinS_append _ _ (partsL_ne a) h1, joinS_parts] at this
    exact ⟨_, this⟩
  · right
    unfold orderL; rw [partsL_append]; exact h1 _

/-! Depth (P9.1, P9.2). -/
theorem partsL_depth : ∀ l : List UInt8, (partsL l).length = 1 + l.count 47
  | [] => rfl
  | c :: t => by
    have ih := partsL_depth t
    unfold partsL
    split
    · rename_i h; subst h; simp; omega
    · rename_i h
      rw [List.count_cons_of_ne h]
      cases hp : partsL t with
      | nil => exact absurd hp (partsL_ne t)
      | cons p ps => rw [hp] at ih; exact ih
theorem nameB_noslash {n : List UInt8} (h : nameB n = true) : ∀ c ∈ n, c ≠ 47 := by
  unfold nameB at h
  rw [Bool.and_eq_true] at h
  intro c hc e
  have := List.all_eq_true.1 h.2 c hc
  rw [e] at this; cases this
theorem fitB_below {s n : List UInt8} (h : fitB s = true) : fitB (s ++ 47 :: n) = (decide ((partsL s).length < 8) && fitB n && decide ((splitL n).length ≤ 8 - (partsL s).length)) := by
  obtain ⟨h1, h2⟩ := (fitB_iff s).1 h
  have hp := List.length_pos_iff.2 (partsL_ne n)
  have hq := List.length_pos_iff.2 (partsL_ne s)
  rw [Bool.eq_iff_iff, fitB_iff, partsL_append, List.all_append, h2, List.length_append]
  simp only [Bool.true_and, Bool.and_eq_true, decide_eq_true_eq]
  constructor
  · rintro ⟨a, b⟩
    have hf : fitB n = true := (fitB_iff n).2 ⟨by omega, b⟩
    rw [splitL_fit hf]
    exact ⟨⟨by omega, hf⟩, by omega⟩
  · rintro ⟨⟨a, b⟩, c⟩
    rw [splitL_fit b] at c
    exact ⟨by omega, ((fitB_iff n).1 b).2⟩
theorem dirL_below {s n : List UInt8} (h : fitB s = true) (hn : nameB n = true) (hk : (partsL s).length < 8) : dirL (s ++ 47 :: n) = s := by
  have hp := partsL_noslash n (nameB_noslash hn)
  have hf : fitB n = true := (fitB_iff n).2 (by rw [hp]; simp [hn])
  refine (dirL_slash (nameB_noslash hn) ?_).1
  rw [fitB_below h, hf, splitL_fit hf, hp]
  simp; omega
theorem joinL_split {s : List UInt8} (h : fitB s = true) : joinL (splitL s) = s := by
  rw [splitL_fit h]
  unfold joinL
  rw [if_pos ((fitB_iff s).1 h), joinS_parts]
theorem splitL_pos {s : List UInt8} (h : fitB s = true) : 1 ≤ (splitL s).length := by
  rw [splitL_fit h]; exact List.length_pos_iff.2 (partsL_ne s)
theorem dirL_def {s : List UInt8} (h : fitB s = true) : dirL s = joinL ((splitL s).take ((splitL s).length - 1)) := by
  unfold dirL
  split
  · have := splitL_pos h
    have e : (splitL s).length - 1 = 0 := by omega
    rw [e]; rfl
  · rfl
theorem splitL_names (s : List UInt8) : (splitL s).all nameB = true := by
  unfold splitL; split
  · exact (‹_ ∧ _›).2
  · rfl
end Go.Proofs.YtaompdnnkfmjhaaGreatDoor
