/- Nodes and their bytes, in plain words. No program in sight. -/
import Derived.Test.YtkejdbidomlonaaGreatDoorJSnpPlain
namespace Go.Proofs.YtkejdbidomlonaaGreatDoor

/-- What was taken stands in the bytes as it is written. -/
theorem takeGo_canon : ∀ (l : List UInt8) (i acc : Nat), i ≤ 9 → (takeGo i acc l).2.2 = 0 → ∃ n k : Nat, (takeGo i acc l).1 = acc + n * 2 ^ (7 * i) ∧ (takeGo i acc l).2.1 = i + k ∧ l.take k = putV n ∧ k ≤ l.length ∧ ¬ (n = 0 ∧ 0 < i)
  | [], i, acc, _, h => by simp [takeGo] at h
  | c :: cs, i, acc, h9, h => by
    unfold takeGo at h ⊢
    have hc := c.toNat_lt
    by_cases h1 : i = 9 ∧ 1 < c.toNat
    · rw [if_pos h1] at h; simp at h
    rw [if_neg h1] at h ⊢
    by_cases h2 : c.toNat < 128
    · rw [if_pos h2] at h ⊢
      by_cases h3 : c.toNat = 0 ∧ 0 < i
      · rw [if_pos h3] at h; simp at h
      · rw [if_neg h3]
        refine ⟨c.toNat, 1, ?_, rfl, ?_, by simp, h3⟩
        · simp only; rw [Nat.mod_eq_of_lt h2]
        · rw [putV_small h2]; simp
    · rw [if_neg h2] at h ⊢
      have hi : i < 9 := by
        rcases Nat.lt_or_ge i 9 with hi | hi
        · exact hi
        · exact absurd ⟨by omega, by omega⟩ h1
      obtain ⟨n, k, q1, q2, q3, q4, q5⟩ := takeGo_canon cs (i + 1) _ (by omega) h
      have hn0 : n ≠ 0 := fun e => q5 ⟨e, by omega⟩
      refine ⟨c.toNat % 128 + 128 * n, k + 1, ?_, ?_, ?_, by simp; omega, by omega⟩
      · rw [q1, Nat.add_mul, show 7 * (i + 1) = 7 * i + 7 by omega, Nat.pow_add, Nat.add_assoc]
        congr 1
        rw [show 128 * n * 2 ^ (7 * i) = n * (2 ^ (7 * i) * 2 ^ 7) by rw [show (2 : Nat) ^ 7 = 128 by rfl, Nat.mul_comm 128 n, Nat.mul_assoc, Nat.mul_comm 128]]
      · rw [q2]; omega
      · rw [List.take_succ_cons, q3, putV_big (n := c.toNat % 128 + 128 * n) (by omega)]
        congr 1
        · apply UInt8.toNat_inj.1
          rw [UInt8.toNat_ofNat']
          omega
        · congr 1; omega
theorem takeV_canon {l : List UInt8} (h : (takeV l).2.2 = 0) : l = putV (takeV l).1 ++ l.drop (takeV l).2.1 := by
  obtain ⟨n, k, q1, q2, q3, q4, _⟩ := takeGo_canon l 0 0 (by omega) h
  have e1 : (takeV l).1 = n := by show (takeGo 0 0 l).1 = n; rw [q1]; simp
  have e2 : (takeV l).2.1 = k := by show (takeGo 0 0 l).2.1 = k; rw [q2]; omega
  rw [e1, e2, ← q3, List.take_append_drop]
theorem takeText_canon {l : List UInt8} (h : (takeText l).2.2 = 0) : l = putText (takeText l).1 ++ l.drop (takeText l).2.1 ∧ (takeText l).1.length ≤ 65536 := by
  unfold takeText at h ⊢
  by_cases h1 : (takeV l).2.2 ≠ 0
  · rw [if_pos h1] at h; exact absurd h h1
  rw [if_neg h1] at h ⊢
  by_cases h2 : 65536 < (takeV l).1
  · rw [if_pos h2] at h; simp at h
  rw [if_neg h2] at h ⊢
  by_cases h3 : l.length - (takeV l).2.1 < (takeV l).1
  · rw [if_pos h3] at h; simp at h
  rw [if_neg h3]
  have hc := takeV_canon (l := l) (by simpa using h1)
  have hk := (takeV_ok (l := l) (by simpa using h1)).1
  simp only
  generalize (takeV l).1 = n at *
  generalize (takeV l).2.1 = k at *
  have hcl : (cutL l k (k + n)).length = n := by simp only [cutL, List.length_drop, List.length_take]; omega
  refine ⟨?_, by omega⟩
  unfold putText
  rw [if_neg (by omega), hcl]
  have h4 : l.drop k = cutL l k (k + n) ++ l.drop (k + n) := by
    have h5 : (l.drop k).take n = cutL l k (k + n) := by simp only [cutL]; rw [List.drop_take]; congr 1; omega
    rw [← h5, show l.drop (k + n) = (l.drop k).drop n by rw [List.drop_drop], List.take_append_drop]
  rw [List.append_assoc, ← h4]
  exact hc

abbrev Prt := List UInt8 × Int
/-- A directory's entry: its name, its kind, whether it can be run, its key. -/
abbrev Ent := List UInt8 × Int × Bool × List UInt8
structure Nod where
  kind : Int
  data : List UInt8
  parts : List Prt
  ents : List Ent
def zNod : Nod := ⟨0, [], [], []⟩
def partOk (p : Prt) : Bool := p.1.length == 32 && (decide (1 ≤ p.2) && decide (p.2 ≤ 4096))
def wholeP (l : List Prt) : Int := (l.map (·.2)).sum
def entOk (e : Ent) : Bool := (e.2.1 == 2 || e.2.1 == 3 && !e.2.2.1) && (e.2.2.2.length == 32 && nameB e.1)
def risesE (l : List Ent) : Prop := (l.map (·.1)).Pairwise (· < ·)
structure FitFile (l : List Prt) : Prop where
  len : l.length ≤ 1024
  ok : ∀ p ∈ l, partOk p = true
  whole : wholeP l ≤ 32768
structure FitDir (l : List Ent) : Prop where
  len : l.length ≤ 60
  ok : ∀ e ∈ l, entOk e = true
  rises : risesE l
def FitN (n : Nod) : Prop :=
  (n.kind = 1 ∧ n.data ≠ [] ∧ n.data.length ≤ 4096 ∧ n.parts = [] ∧ n.ents = []) ∨ (n.kind = 2 ∧ n.data = [] ∧ n.ents = [] ∧ FitFile n.parts) ∨ (n.kind = 3 ∧ n.data = [] ∧ n.parts = [] ∧ FitDir n.ents)
noncomputable def fitN (n : Nod) : Bool := @decide (FitN n) (Classical.propDecidable _)
theorem fitN_iff {n : Nod} : fitN n = true ↔ FitN n := by unfold fitN; exact @decide_eq_true_iff _ (Classical.propDecidable _)
theorem fitN_no {n : Nod} (h : ¬ FitN n) : fitN n = false := by
  cases e : fitN n with
  | false => rfl
  | true => exact absurd (fitN_iff.1 e) h
def partW (p : Prt) : List UInt8 := p.1 ++ putV p.2.toNat
def kindW (e : Ent) : UInt8 := UInt8.ofNat (e.2.1.toNat + if e.2.2.1 = true then 4 else 0)
def entW (e : Ent) : List UInt8 := putText e.1 ++ [kindW e] ++ e.2.2.2
def bodyN (n : Nod) : List UInt8 := if n.kind = 1 then n.data else if n.kind = 2 then putV n.parts.length ++ n.parts.flatMap partW else putV n.ents.length ++ n.ents.flatMap entW
noncomputable def writeN (n : Nod) : List UInt8 := if fitN n = true then UInt8.ofNat n.kind.toNat :: bodyN n else []

/-! What bytes begin with, and the rest. -/
def cutR (n : Nat) (s : List UInt8) : Option (List UInt8 × List UInt8) := if s.length < n then none else some (s.take n, s.drop n)
def numR (most : Nat) (s : List UInt8) : Option (Nat × List UInt8) := if (takeV s).2.2 ≠ 0 ∨ most < (takeV s).1 then none else some ((takeV s).1, s.drop (takeV s).2.1)
def textR (s : List UInt8) : Option (List UInt8 × List UInt8) := if (takeText s).2.2 ≠ 0 then none else some ((takeText s).1, s.drop (takeText s).2.1)
def kindB (c : UInt8) : Nat := c.toNat - 4 * (c.toNat / 4 % 2)
def execB (c : UInt8) : Bool := c.toNat / 4 % 2 == 1
def partR (s : List UInt8) : Option (Prt × List UInt8) :=
  match cutR 32 s with
  | none => none
  | some (k, s1) => match numR 4096 s1 with
    | none => none
    | some (n, s2) => some ((k, (n : Int)), s2)
def entR (s : List UInt8) : Option (Ent × List UInt8) :=
  match textR s with
  | none => none
  | some (t, s1) => match s1 with
    | [] => none
    | c :: s2 => match cutR 32 s2 with
      | none => none
      | some (k, s3) => some ((t, (kindB c : Int), execB c, k), s3)
def manyR {α : Type} (r : List UInt8 → Option (α × List UInt8)) : Nat → List UInt8 → Option (List α × List UInt8)
  | 0, s => some ([], s)
  | n + 1, s => match r s with
    | none => none
    | some (x, s1) => match manyR r n s1 with
      | none => none
      | some (l, s2) => some (x :: l, s2)
def listR {α : Type} (r : List UInt8 → Option (α × List UInt8)) (s : List UInt8) : Option (List α × List UInt8) :=
  match numR 1024 s with
  | none => none
  | some (n, s1) => manyR r n s1
def parseN : List UInt8 → Option (Nod × List UInt8)
  | [] => none
  | c :: s => if c.toNat = 1 then some (⟨1, s, [], []⟩, []) else if c.toNat = 2 then (match listR partR s with | none => none | some (l, r) => some (⟨2, [], l, []⟩, r))
    else if c.toNat = 3 then (match listR entR s with | none => none | some (l, r) => some (⟨3, [], [], l⟩, r)) else none
noncomputable def readN (s : List UInt8) : Nod × Int :=
  match parseN s with
  | none => (zNod, 2)
  | some (n, r) => if r = [] ∧ fitN n = true then (n, 0) else (zNod, 2)

theorem parseN_cons (c : UInt8) (s : List UInt8) : parseN (c :: s) = if c.toNat = 1 then some (⟨1, s, [], []⟩, []) else if c.toNat = 2 then (match listR partR s with | none => none | some (l, r) => some (⟨2, [], l, []⟩, r))
    else if c.toNat = 3 then (match listR entR s with | none => none | some (l, r) => some (⟨3, [], [], l⟩, r)) else none := rfl
theorem cutR_some {n : Nat} {s a r : List UInt8} (h : cutR n s = some (a, r)) : s = a ++ r ∧ a.length = n := by
  unfold cutR at h
  split at h
  · cases h
  · cases h
    exact ⟨(List.take_append_drop _ _).symm, by rw [List.length_take]; omega⟩
theorem numR_some {m n : Nat} {s r : List UInt8} (h : numR m s = some (n, r)) : s = putV n ++ r ∧ n ≤ m := by
  unfold numR at h
  split at h
  · cases h
  · rename_i hn
    cases h
    exact ⟨takeV_canon (by apply Classical.byContradiction; intro e; exact hn (.inl e)), by omega⟩
theorem textR_some {s t r : List UInt8} (h : textR s = some (t, r)) : s = putText t ++ r := by
  unfold textR at h
  split at h
  · cases h
  · rename_i hn
    cases h
    exact (takeText_canon (by apply Classical.byContradiction; intro e; exact hn e)).1
theorem partR_some {s r : List UInt8} {p : Prt} (h : partR s = some (p, r)) : s = partW p ++ r := by
  unfold partR at h
  cases h1 : cutR 32 s with
  | none => rw [h1] at h; cases h
  | some q =>
    obtain ⟨k, s1⟩ := q
    rw [h1] at h
    simp only at h
    cases h2 : numR 4096 s1 with
    | none => rw [h2] at h; cases h
    | some q =>
      obtain ⟨n, s2⟩ := q
      rw [h2] at h
      simp only [Option.some.injEq, Prod.mk.injEq] at h
      obtain ⟨rfl, rfl⟩ := h
      rw [(cutR_some h1).1, (numR_some h2).1]
      simp [partW]
theorem kind_back {c : UInt8} (_h : kindB c = 2 ∨ kindB c = 3) : UInt8.ofNat (kindB c + if execB c = true then 4 else 0) = c := by
  apply UInt8.toNat_inj.1
  rw [UInt8.toNat_ofNat']
  unfold kindB execB at *
  have := c.toNat_lt
  by_cases e : c.toNat / 4 % 2 = 1
  · rw [if_pos (by simpa using e)]; omega
  · rw [if_neg (by simpa using e)]; omega
theorem entR_some {s r : List UInt8} {e : Ent} (h : entR s = some (e, r)) (hk : entOk e = true) : s = entW e ++ r := by
  unfold entR at h
  cases h1 : textR s with
  | none => rw [h1] at h; cases h
  | some q =>
    obtain ⟨t, s1⟩ := q
    rw [h1] at h
    simp only at h
    cases s1 with
    | nil => cases h
    | cons c s2 =>
      simp only at h
      cases h2 : cutR 32 s2 with
      | none => rw [h2] at h; cases h
      | some q =>
        obtain ⟨k, s3⟩ := q
        rw [h2] at h
        simp only [Option.some.injEq, Prod.mk.injEq] at h
        obtain ⟨rfl, rfl⟩ := h
        have hkk : kindB c = 2 ∨ kindB c = 3 := by
          unfold entOk at hk
          simp only [Bool.and_eq_true, Bool.or_eq_true, beq_iff_eq] at hk
          rcases hk.1 with h | ⟨h, _⟩ <;> omega
        have hb := kind_back hkk
        rw [textR_some h1]
        unfold entW kindW
        simp only [Int.toNat_natCast]
        rw [hb, (cutR_some h2).1]
        simp
theorem manyR_some {α : Type} {rd : List UInt8 → Option (α × List UInt8)} {wr : α → List UInt8} {ok : α → Prop} (hr : ∀ s x r, rd s = some (x, r) → ok x → s = wr x ++ r) :
    ∀ (n : Nat) (s r : List UInt8) (l : List α), manyR rd n s = some (l, r) → (∀ x ∈ l, ok x) → s = l.flatMap wr ++ r ∧ l.length = n
  | 0, s, r, l, h, _ => by cases h; exact ⟨rfl, rfl⟩
  | n + 1, s, r, l, h, hok => by
    unfold manyR at h
    cases h1 : rd s with
    | none => rw [h1] at h; cases h
    | some q =>
      obtain ⟨x, s1⟩ := q
      rw [h1] at h
      simp only at h
      cases h2 : manyR rd n s1 with
      | none => rw [h2] at h; cases h
      | some q =>
        obtain ⟨l2, s2⟩ := q
        rw [h2] at h
        simp only [Option.some.injEq, Prod.mk.injEq] at h
        obtain ⟨rfl, rfl⟩ := h
        obtain ⟨e1, e2⟩ := manyR_some hr n s1 s2 l2 h2 (fun y hy => hok y (List.mem_cons_of_mem _ hy))
        refine ⟨?_, by simp [e2]⟩
        rw [hr _ _ _ h1 (hok x List.mem_cons_self), e1]
        simp
theorem listR_some {α : Type} {rd : List UInt8 → Option (α × List UInt8)} {wr : α → List UInt8} {ok : α → Prop} (hr : ∀ s x r, rd s = some (x, r) → ok x → s = wr x ++ r)
    {s r : List UInt8} {l : List α} (h : listR rd s = some (l, r)) (hok : ∀ x ∈ l, ok x) : s = putV l.length ++ l.flatMap wr ++ r := by
  unfold listR at h
  cases h1 : numR 1024 s with
  | none => rw [h1] at h; cases h
  | some q =>
    obtain ⟨n, s1⟩ := q
    rw [h1] at h
    obtain ⟨e1, e2⟩ := manyR_some hr n s1 r l h hok
    rw [(numR_some h1).1, e2, List.append_assoc, ← e1]
/-- What was read as a node that can be is what it is written as, and the rest. -/
theorem parseN_some {s r : List UInt8} {n : Nod} (h : parseN s = some (n, r)) (hf : FitN n) : s = writeN n ++ r := by
  unfold writeN
  rw [if_pos (fitN_iff.2 hf)]
  cases s with
  | nil => cases h
  | cons c s =>
    rw [parseN_cons] at h
    have hc : ∀ k : Nat, c.toNat = k → UInt8.ofNat k = c := fun k e => by rw [← e]; exact UInt8.ofNat_toNat
    split at h
    · rename_i h1
      cases h
      unfold bodyN
      rw [if_pos rfl]
      show c :: s = UInt8.ofNat 1 :: s ++ []
      rw [hc 1 h1, List.append_nil]
    · split at h
      · rename_i h1
        cases h2 : listR partR s with
        | none => rw [h2] at h; cases h
        | some q =>
          obtain ⟨l, r2⟩ := q
          rw [h2] at h
          cases h
          unfold bodyN
          simp only
          rw [if_neg (by decide), if_pos trivial]
          show c :: s = UInt8.ofNat 2 :: (putV l.length ++ l.flatMap partW) ++ r
          rw [hc 2 h1, listR_some (rd := partR) (wr := partW) (ok := fun _ => True) (fun s x r h _ => partR_some h) h2 (fun _ _ => trivial)]
          rfl
      · split at h
        · rename_i h1
          cases h2 : listR entR s with
          | none => rw [h2] at h; cases h
          | some q =>
            obtain ⟨l, r2⟩ := q
            rw [h2] at h
            cases h
            have hok : ∀ e ∈ l, entOk e = true := by
              rcases hf with ⟨h3, _⟩ | ⟨h3, _⟩ | ⟨_, _, _, h4⟩
              · cases h3
              · cases h3
              · exact h4.ok
            unfold bodyN
            simp only
            rw [if_neg (by decide), if_neg (by decide)]
            show c :: s = UInt8.ofNat 3 :: (putV l.length ++ l.flatMap entW) ++ r
            rw [hc 3 h1, listR_some (rd := entR) (wr := entW) (ok := fun e => entOk e = true) (fun s x r h hk => entR_some h hk) h2 hok]
            rfl
        · cases h
theorem readN_some {s r : List UInt8} {n : Nod} (h : parseN s = some (n, r)) (hf : FitN n) : (r = [] ↔ writeN n = s) := by
  have h1 := parseN_some h hf
  constructor
  · rintro rfl; rw [h1, List.append_nil]
  · intro e
    rw [e] at h1
    have := congrArg List.length h1
    rw [List.length_append] at this
    exact List.eq_nil_of_length_eq_zero (by omega)
end Go.Proofs.YtkejdbidomlonaaGreatDoor
