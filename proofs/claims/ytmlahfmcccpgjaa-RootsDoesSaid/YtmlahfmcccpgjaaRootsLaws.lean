/- Laws of trees that are kept, in plain lists. -/
import Derived.Test.YtmlahfmcccpgjaaP18
import Derived.Test.YtmlahfmcccpgjaaVarBack
namespace Go.Proofs.Ytmlahfmcccpgjaa

theorem upR_of_pairs : ∀ (l : List Snp), l.Pairwise (fun a b => a.1 < b.1) → upR l = true
  | [], _ => rfl
  | [a], _ => rfl
  | a :: b :: t, h => by
    rw [upR, Bool.and_eq_true, decide_eq_true_eq]
    exact ⟨List.rel_of_pairwise_cons h List.mem_cons_self, upR_of_pairs (b :: t) (List.Pairwise.of_cons h)⟩
theorem upS_of (l : List Snp) (h : upR l = true) : upS (namesR l) := by
  unfold upS namesR
  rw [List.pairwise_map]
  exact up_pairs l h
theorem fitR_parts {l : List Snp} (h : fitR l = true) : l.length ≤ 20 ∧ l.all eachR = true ∧ upR l = true := by
  simp only [fitR, Bool.and_eq_true, decide_eq_true_eq] at h
  exact ⟨h.1, h.2.1, h.2.2⟩
theorem fitR_mk {l : List Snp} (h1 : l.length ≤ 20) (h2 : l.all eachR = true) (h3 : upR l = true) : fitR l = true := by
  simp [fitR, h1, h2, h3]
theorem fitR_drop {l : List Snp} (h : fitR l = true) (n : List UInt8) : fitR (dropE l n).1 = true := by
  obtain ⟨h1, h2, h3⟩ := fitR_parts h
  unfold dropE
  split
  · simp only [dropL1]
    refine fitR_mk (Nat.le_trans (List.length_filter_le _ _) h1) ?_ ?_
    · rw [List.all_eq_true] at h2 ⊢
      exact fun x hx => h2 x (List.mem_filter.1 hx).1
    · exact upR_of_pairs _ ((up_pairs l h3).filter _)
  · exact h
theorem insR_mem {l : List Snp} {x y : Snp} (h : y ∈ insR l x) : y = x ∨ y ∈ l := by
  unfold insR at h
  rcases List.mem_append.1 h with h | h
  · exact .inr ((List.takeWhile_sublist _).mem h)
  · rcases List.mem_cons.1 h with h | h
    · exact .inl h
    · exact .inr ((List.dropWhile_sublist _).mem h)
theorem dropWhile_head {α : Type} {p : α → Bool} : ∀ {l : List α} {y : α} {t : List α}, l.dropWhile p = y :: t → p y = false
  | [], _, _, h => by simp at h
  | a :: l, y, t, h => by
    rw [List.dropWhile_cons] at h
    split at h
    · exact dropWhile_head h
    · rename_i hp
      cases h
      simpa using hp
theorem of_takeWhile {α : Type} {p : α → Bool} : ∀ {l : List α} {y : α}, y ∈ l.takeWhile p → p y = true
  | [], y, h => by simp at h
  | a :: l, y, h => by
    rw [List.takeWhile_cons] at h
    split at h
    · rcases List.mem_cons.1 h with rfl | h
      · assumption
      · exact of_takeWhile h
    · simp at h
theorem insR_up {l : List Snp} {x : Snp} (h : upR l = true) (hx : x.1 ∉ namesR l) : upR (insR l x) = true := by
  have hp := up_pairs l h
  have hT := (List.takeWhile_append_dropWhile (p := fun y : Snp => !decide (x.1 < y.1)) (l := l))
  have hA : ∀ y ∈ l.takeWhile (fun y : Snp => !decide (x.1 < y.1)), y.1 < x.1 := by
    intro y hy
    have h1 := of_takeWhile hy
    have h2 : y ∈ l := (List.takeWhile_sublist _).mem hy
    have hne : y.1 ≠ x.1 := by rintro e; exact hx (e ▸ List.mem_map_of_mem h2)
    simp at h1
    rcases lt_or_eq_or_gt y.1 x.1 with h3 | h3 | h3
    · exact h3
    · exact absurd h3 hne
    · exact absurd h3 (List.not_lt.2 h1)
  have hD : ∀ y ∈ l.dropWhile (fun y : Snp => !decide (x.1 < y.1)), x.1 < y.1 := by
    intro y hy
    cases hd : l.dropWhile (fun y : Snp => !decide (x.1 < y.1)) with
    | nil => rw [hd] at hy; cases hy
    | cons z t =>
      have hz := dropWhile_head hd
      simp only [Bool.not_eq_false', decide_eq_true_eq] at hz
      rw [hd] at hy
      rcases List.mem_cons.1 hy with rfl | hy
      · exact hz
      · have hs : (z :: t).Pairwise (fun a b => a.1 < b.1) := by rw [← hd]; exact hp.sublist (List.dropWhile_sublist _)
        exact List.lt_trans hz (List.rel_of_pairwise_cons hs hy)
  refine upR_of_pairs _ ?_
  unfold insR
  rw [List.pairwise_append]
  refine ⟨hp.sublist (List.takeWhile_sublist _), ?_, ?_⟩
  · rw [List.pairwise_cons]
    exact ⟨hD, hp.sublist (List.dropWhile_sublist _)⟩
  · intro a ha b hb
    rcases List.mem_cons.1 hb with rfl | hb
    · exact hA a ha
    · exact List.lt_trans (hA a ha) (hD b hb)
theorem not_mem_of_find {l : List Snp} {n : List UInt8} (h : (findR l n).isSome = false) : n ∉ namesR l := by
  intro hm
  unfold findR at h
  obtain ⟨y, hy, rfl⟩ := List.mem_map.1 hm
  have : (l.find? (fun x => x.1 == y.1)).isSome = true := by
    rw [List.find?_isSome]; exact ⟨y, hy, by simp⟩
  rw [Option.isSome_map] at h
  rw [h] at this; cases this
theorem fitR_put {l : List Snp} (h : fitR l = true) (x : Snp) : fitR (putE l x).1 = true := by
  obtain ⟨h1, h2, h3⟩ := fitR_parts h
  unfold putE
  split
  · exact h
  split
  · exact h
  split
  · exact h
  split
  · exact h
  rename_i hn hk hf h20
  simp only
  refine fitR_mk (by rw [insR_len]; omega) ?_ (insR_up h3 (not_mem_of_find (by simpa using hf)))
  rw [List.all_eq_true] at h2 ⊢
  intro y hy
  rcases insR_mem hy with rfl | hy
  · have hk2 : y.2.length = 32 := by simpa using hk
    simp only [eachR, hk2]
    simpa using hn
  · exact h2 y hy
theorem fitR_step {l : List Snp} (h : fitR l = true) (x : Snp) (g : Bool) : fitR (stepR l x g).1 = true := by
  unfold stepR
  split
  · exact fitR_drop h _
  · exact fitR_put h _
theorem fitR_replay : ∀ (xs : List (List UInt8)) (l : List Snp) (i : Nat), fitR l = true → fitR (replayR l i xs).1 = true
  | [], l, i, h => h
  | s :: ss, l, i, h => by
    rw [replayR]
    split
    · exact h
    split
    · exact h
    · exact fitR_replay ss _ _ (fitR_step h _ _)
end Go.Proofs.Ytmlahfmcccpgjaa
