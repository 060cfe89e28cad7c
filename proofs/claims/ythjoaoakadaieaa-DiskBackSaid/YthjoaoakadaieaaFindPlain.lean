/- What is found behind acts. No program in sight. -/
import Derived.Test.YthjoaoakadaieaaFitKeeps
namespace Go.Proofs.Ythjoaoakadaieaa

theorem bytes_tri (a b : List UInt8) : a < b ∨ a = b ∨ b < a := by
  by_cases h1 : a < b
  · exact .inl h1
  · by_cases h2 : b < a
    · exact .inr (.inr h2)
    · exact .inr (.inl (List.le_antisymm (List.not_lt.1 h2) (List.not_lt.1 h1)))
theorem find_with {l : List LF} {f : LF} {n : List UInt8} : findF (withF l f) n = if f.1 = n then some f else findF l n := by
  unfold findF withF withK
  rw [List.find?_append, List.find?_filter]
  split
  · rename_i h
    subst h
    rw [List.find?_eq_none.2, List.find?_cons_of_pos (by simp)]
    · rfl
    · intro x _
      simp only [Bool.and_eq_true, decide_eq_true_eq, beq_iff_eq, not_and, Bool.not_eq_true]
      intro h1 h2
      rw [h2] at h1; exact List.lt_irrefl _ h1
  · rename_i h
    rw [List.find?_cons_of_neg (by simpa using h), List.find?_filter]
    rcases bytes_tri f.1 n with h1 | h1 | h1
    · rw [List.find?_eq_none.2, Option.none_or]
      · congr 1; funext x
        by_cases hx : x.1 = n
        · simp [hx, h1]
        · simp [hx]
      · intro x _
        simp only [Bool.and_eq_true, decide_eq_true_eq, beq_iff_eq, not_and]
        intro h2 h3
        rw [h3] at h2; exact List.lt_asymm h1 h2
    · exact absurd h1 h
    · have e1 : (l.find? fun x => decide (decide (x.1 < f.1) = true ∧ (x.1 == n) = true)) = l.find? fun x => x.1 == n := by
        congr 1; funext x
        by_cases hx : x.1 = n
        · simp [hx, h1]
        · simp [hx]
      have e2 : (l.find? fun x => decide (decide (f.1 < x.1) = true ∧ (x.1 == n) = true)) = none := by
        rw [List.find?_eq_none]
        intro x _
        simp only [decide_eq_true_eq, beq_iff_eq, not_and]
        intro h2 h3
        rw [h3] at h2; exact List.lt_asymm h1 h2
      exact (congrArg (fun z => Option.or z _) e1).trans ((congrArg (fun z => Option.or _ z) e2).trans Option.or_none)
theorem find_without {l : List LF} {m n : List UInt8} : findF (withoutF l m) n = if n = m then none else findF l n := by
  unfold findF withoutF withoutK
  rw [List.find?_filter]
  split
  · rename_i h
    subst h
    rw [List.find?_eq_none]
    intro x _
    simp
  · rename_i h
    congr 1; funext x
    by_cases hx : x.1 = n
    · simp [hx, h]
    · simp [hx]
theorem find_crash : ∀ {l : List LF} {n : List UInt8} {f : LF} (ks : List Bool), findF l n = some f → ∃ ks', findF (crashL l ks) n = some (f.1, layKeep f.2.1 f.2.2 ks', [])
  | [], _, _, _, h => by cases h
  | g :: l, n, f, ks, h => by
    unfold findF at h ⊢
    unfold crashL
    by_cases hg : (g.1 == n) = true
    · rw [List.find?_cons_of_pos (by simpa using hg)] at h ⊢
      cases h
      exact ⟨ks, rfl⟩
    · rw [List.find?_cons_of_neg (by simpa using hg)] at h ⊢
      exact find_crash _ h
theorem layKeep_all : ∀ (ops : List Opn) (s : List UInt8) (m : Nat), ops.length ≤ m → layKeep s ops (List.replicate m true) = seenL s ops
  | [], _, _, _ => rfl
  | o :: os, s, 0, h => by simp at h
  | o :: os, s, m + 1, h => by
    rw [List.replicate_succ, layKeep, List.headD_cons, if_pos rfl, List.tail_cons, layKeep_all os _ m (by simpa using h)]
    rfl
theorem find_whole : ∀ {l : List LF} {n : List UInt8} {f : LF} (m : Nat), (∀ g ∈ l, g.2.2.length ≤ 200) → l.length * 200 ≤ m → findF l n = some f → findF (crashL l (List.replicate m true)) n = some (f.1, seenL f.2.1 f.2.2, [])
  | [], _, _, _, _, _, h => by cases h
  | g :: l, n, f, m, ho, hm, h => by
    have hg1 := ho g (by simp)
    rw [List.length_cons] at hm
    unfold findF at h ⊢
    unfold crashL
    by_cases hg : (g.1 == n) = true
    · rw [List.find?_cons_of_pos (by simpa using hg)] at h ⊢
      cases h
      rw [layKeep_all _ _ _ (by omega)]
    · rw [List.find?_cons_of_neg (by simpa using hg)] at h ⊢
      rw [List.drop_replicate]
      exact find_whole (m - g.2.2.length) (fun x hx => ho x (by simp [hx])) (by omega) h
theorem find_name {l : List LF} {n : List UInt8} (h : n ∈ l.map (·.1)) : ∃ f, findF l n = some f := by
  obtain ⟨f, hf, rfl⟩ := List.mem_map.1 h
  cases hh : findF l f.1 with
  | some g => exact ⟨g, rfl⟩
  | none =>
    unfold findF at hh
    have := List.find?_eq_none.1 hh f hf
    simp at this
/-- Kept wholly, all is as it was seen. -/
theorem lasts_whole {d : LD} {n : List UInt8} (h : FitP d) (hn : n ∈ d.1.map (·.1)) : ∃ s, readD d n = (s, true) ∧ readD (crashL d.1 (List.replicate 2000 true), false, -1) n = (s, true) := by
  obtain ⟨f, hf⟩ := find_name hn
  have hw := find_whole (m := 2000) (fun g hg => ((badF_iff _).1 (h.ok g hg)).2.1) (by have := h.len; omega) hf
  exact ⟨seenL f.2.1 f.2.2, readD_some hf, readD_some (f := (f.1, seenL f.2.1 f.2.2, [])) hw⟩
theorem act_ok {d c : LD} {wrong : Int} {fs : List LF} (h : actD d wrong fs = (c, 0)) : c.1 = fs ∧ wrong = 0 ∧ d.2.1 = false ∧ c.2.1 = false := by
  unfold actD at h
  split at h
  · cases h
  · rename_i ho
    split at h
    · rename_i hw
      have := congrArg Prod.snd h
      exact absurd this hw
    · rename_i hw
      split at h
      · cases h
      · cases h
        exact ⟨rfl, by simpa using hw, by simpa using ho, by simpa using ho⟩
/-- What was made to last is there behind any loss of power. -/
theorem lasts_sync {d c : LD} {n : List UInt8} (ks : List Bool) (h : syncD d n = (c, 0)) : ∃ s, readD c n = (s, true) ∧ readD (crashL c.1 ks, false, -1) n = (s, true) := by
  unfold syncD at h
  obtain ⟨h1, _, _, _⟩ := act_ok h
  have hf : findF c.1 n = some (n, (readD d n).1, []) := by rw [h1, find_with, if_pos rfl]
  obtain ⟨ks', hc⟩ := find_crash ks hf
  exact ⟨(readD d n).1, readD_some hf, readD_some (f := (n, (readD d n).1, [])) hc⟩
end Go.Proofs.Ythjoaoakadaieaa
