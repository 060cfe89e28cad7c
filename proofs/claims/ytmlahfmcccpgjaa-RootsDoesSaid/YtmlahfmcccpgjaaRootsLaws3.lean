/- Still more laws of trees that are kept: what was put is found, what was dropped is not. -/
import Derived.Test.YtmlahfmcccpgjaaRootsLaws2
namespace Go.Proofs.Ytmlahfmcccpgjaa

theorem dropL1_all {l : List Snp} {n : List UInt8} (h : n ∉ namesR l) : dropL1 l n = l := by
  unfold dropL1
  rw [List.filter_eq_self]
  intro y hy
  simp only [Bool.not_eq_true', beq_eq_false_iff_ne]
  rintro rfl
  exact h (List.mem_map_of_mem hy)
theorem dropL1_append (a b : List Snp) (n : List UInt8) : dropL1 (a ++ b) n = dropL1 a n ++ dropL1 b n := by unfold dropL1; exact List.filter_append ..
theorem drop_ins {l : List Snp} {x : Snp} (h : x.1 ∉ namesR l) : dropL1 (insR l x) x.1 = l := by
  have e : dropL1 (insR l x) x.1 = dropL1 (l.takeWhile (fun y => !decide (x.1 < y.1)) ++ l.dropWhile (fun y => !decide (x.1 < y.1))) x.1 := by
    unfold insR
    rw [dropL1_append, dropL1_append]
    congr 1
    unfold dropL1
    rw [List.filter_cons]
    simp
  rw [e, List.takeWhile_append_dropWhile, dropL1_all h]
theorem find_ins {l : List Snp} {x : Snp} (h : x.1 ∉ namesR l) : findR (insR l x) x.1 = some x.2 := by
  have hA : (l.takeWhile (fun y => !decide (x.1 < y.1))).find? (fun y => y.1 == x.1) = none := by
    rw [List.find?_eq_none]
    intro y hy
    simp only [beq_iff_eq]
    rintro e
    exact h (e ▸ List.mem_map_of_mem ((List.takeWhile_sublist _).mem hy))
  unfold findR insR
  rw [List.find?_append, hA]
  simp
theorem drop_gone (l : List Snp) (n : List UInt8) : findR (dropL1 l n) n = none := by
  refine findR_none ?_
  intro hm
  obtain ⟨y, hy, rfl⟩ := List.mem_map.1 hm
  have := (List.mem_filter.1 hy).2
  simp at this
theorem drop_len : ∀ (l : List Snp) (n : List UInt8), l.Pairwise (fun a b => a.1 < b.1) → n ∈ namesR l → (dropL1 l n).length + 1 = l.length
  | [], n, _, h => by simp [namesR] at h
  | x :: l, n, hp, h => by
    have hp2 := List.Pairwise.of_cons hp
    by_cases hx : x.1 = n
    · have hn : n ∉ namesR l := by
        intro hm
        obtain ⟨y, hy, he⟩ := List.mem_map.1 hm
        have := List.rel_of_pairwise_cons hp hy
        rw [he, ← hx] at this
        exact List.lt_irrefl _ this
      have e : dropL1 (x :: l) n = dropL1 l n := by unfold dropL1; rw [List.filter_cons]; simp [hx]
      rw [e, dropL1_all hn]
      rfl
    · have hm : n ∈ namesR l := by
        rcases List.mem_cons.1 h with h | h
        · exact absurd h.symm hx
        · exact h
      have e : dropL1 (x :: l) n = x :: dropL1 l n := by unfold dropL1; rw [List.filter_cons]; simp [hx]
      rw [e]
      have := drop_len l n hp2 hm
      simp only [List.length_cons]
      omega
/-- What the records come to, and what comes behind one more that goes. -/
theorem replay_all {l : List Snp} (h : fitR l = true) : replayR [] 0 (l.reverse.map (fun x => recordR x false)) = (l, l.length) := by
  have := replay_back l.length l [] 0 [] rfl (by simpa using h)
  simpa [replayR] using this
theorem replay_more {l : List Snp} {y : Snp} (h : fitR l = true) (hy : y ∈ l) : replayR [] 0 (l.reverse.map (fun x => recordR x false) ++ [recordR y true]) = (dropL1 l y.1, l.length + 1) := by
  have h1 := replay_back l.length l [] 0 [recordR y true] rfl (by simpa using h)
  rw [h1]
  obtain ⟨_, he, _⟩ := fitR_parts h
  have hey := List.all_eq_true.1 he y hy
  simp only [eachR, Bool.and_eq_true] at hey
  have hr := read_leaves y.2 hey.1
  have hm : y.1 ∈ namesR l := List.mem_map_of_mem hy
  have hf : (findR l y.1).isSome = true := by
    cases hf : (findR l y.1).isSome with
    | true => rfl
    | false => exact absurd hm (not_mem_of_find hf)
  have hst : stepR l (y.1, []) true = (dropL1 l y.1, 0) := by unfold stepR dropE; rw [if_pos rfl, if_pos hf]
  rw [List.append_nil, show recordR y true = recordR (y.1, y.2) true from rfl, replayR_on (by rw [hr]) (by rw [hr]; simp only; rw [hst]), hr]
  simp only
  rw [hst]
  simp [replayR]
end Go.Proofs.Ytmlahfmcccpgjaa
