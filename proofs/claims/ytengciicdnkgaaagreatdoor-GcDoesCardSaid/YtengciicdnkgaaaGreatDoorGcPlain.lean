/- Collections, step by step: plain. -/
import Derived.Test.YtengciicdnkgaaaGreatDoorGcMarkL
import Derived.Test.YtengciicdnkgaaaGreatDoorJNode
import Derived.Test.YtengciicdnkgaaaGreatDoorJKey
import Derived.Test.YtengciicdnkgaaaGreatDoorSnpPlain
namespace Go.Proofs.YtengciicdnkgaaaGreatDoor

abbrev QM := List (List UInt8) × List (List UInt8)
/-- The first that waits is gone through. -/
noncomputable def nextS (o : List Snp) (s : QM) : QM :=
  match s.1 with
  | [] => s
  | k :: q => if (readN (rootOf (findR o k))).2 = 0 then notesS q s.2 (kidsN (readN (rootOf (findR o k))).1) else (q, s.2)
noncomputable def stepS (o : List Snp) : Nat → QM → QM
  | 0, s => s
  | n + 1, s => stepS o n (nextS o s)
theorem nextS_nil {o : List Snp} {s : QM} (h : s.1 = []) : nextS o s = s := by
  obtain ⟨q, m⟩ := s; subst h; rfl
theorem stepS_nil {o : List Snp} : ∀ {n : Nat} {s : QM}, s.1 = [] → stepS o n s = s
  | 0, _, _ => rfl
  | n + 1, s, h => by rw [stepS, nextS_nil h, stepS_nil h]
theorem stepS_add {o : List Snp} : ∀ (a b : Nat) (s : QM), stepS o (a + b) s = stepS o b (stepS o a s)
  | 0, b, s => by rw [Nat.zero_add]; rfl
  | a + 1, b, s => by rw [Nat.add_right_comm, stepS, stepS, stepS_add a b]
theorem stepS_snoc (o : List Snp) (n : Nat) (s : QM) : stepS o (n + 1) s = nextS o (stepS o n s) := stepS_add n 1 s
theorem notesS_mem {x : List UInt8} : ∀ (l : List (List UInt8)) (q m : List (List UInt8)), x ∈ m → x ∈ (notesS q m l).2
  | [], _, _, h => h
  | k :: l, q, m, h => by
    have h1 : x ∈ noteM true m k := by
      unfold noteM
      split
      · exact addL_mem.2 (.inr h)
      · exact h
    exact notesS_mem l _ _ h1
theorem nextS_mem {o : List Snp} {s : QM} {x : List UInt8} (h : x ∈ s.2) : x ∈ (nextS o s).2 := by
  obtain ⟨q, m⟩ := s
  unfold nextS
  cases q with
  | nil => exact h
  | cons k q =>
    simp only
    split
    · exact notesS_mem _ _ _ h
    · exact h
theorem stepS_mem {o : List Snp} {x : List UInt8} : ∀ (n : Nat) (s : QM), x ∈ s.2 → x ∈ (stepS o n s).2
  | 0, _, h => h
  | n + 1, _, h => stepS_mem n _ (nextS_mem h)
theorem read_tot {s : List UInt8} (h : (readN s).2 = 0) : (readN s).1.parts.length + (readN s).1.ents.length ≤ 1084 := by
  have h1 := read_ok (s := s) (n := (readN s).1) (by rw [← h])
  obtain ⟨s1, s2, _⟩ := fit_sizes h1.1
  omega
theorem kids_bound {s : List UInt8} (h : (readN s).2 = 0) : (kidsN (readN s).1).length ≤ 1084 := by
  have h1 := read_ok (s := s) (n := (readN s).1) (by rw [← h])
  obtain ⟨s1, s2, _⟩ := fit_sizes h1.1
  have := kidsN_len (readN s).1
  omega
theorem nextS_len {o : List Snp} {s : QM} (hu : upS s.2) : (nextS o s).1.length ≤ s.1.length + 1084 ∧ (nextS o s).2.length ≤ s.2.length + 1084 ∧ upS (nextS o s).2 := by
  obtain ⟨q, m⟩ := s
  unfold nextS
  cases q with
  | nil => exact ⟨by simp, by simp, hu⟩
  | cons k q =>
    simp only
    split
    · rename_i h
      have h1 := kids_bound h
      obtain ⟨h2, h3, h4⟩ := notesS_inv q m (kidsN (readN (rootOf (findR o k))).1) hu
      simp only [List.length_cons]
      exact ⟨by omega, by omega, h4⟩
    · exact ⟨by simp only [List.length_cons]; omega, by simp only; omega, hu⟩
theorem stepS_len {o : List Snp} : ∀ (n : Nat) (s : QM), upS s.2 → (stepS o n s).1.length ≤ s.1.length + 1084 * n ∧ (stepS o n s).2.length ≤ s.2.length + 1084 * n ∧ upS (stepS o n s).2
  | 0, s, h => ⟨by simp [stepS], by simp [stepS], h⟩
  | n + 1, s, h => by
    obtain ⟨h1, h2, h3⟩ := nextS_len (o := o) h
    obtain ⟨h4, h5, h6⟩ := stepS_len (o := o) n (nextS o s) h3
    exact ⟨by rw [stepS]; omega, by rw [stepS]; omega, h6⟩
end Go.Proofs.YtengciicdnkgaaaGreatDoor
