/- A tree's objects, of which one is gone or has other bytes: plain. -/
import Derived.Test.YtkejdbidomlonaaGreatDoorJNodesW
namespace Go.Proofs.YtkejdbidomlonaaGreatDoor

/-- What the loop has made of the first ones: one is left out, or has other bytes. -/
def lessL (o : List Snp) (i : Nat) (y : Snp) (bad : Bool) (q : Nat) : List Snp := if bad = true then (o.set i y).take q else (o.take q).eraseIdx i
theorem lessL_gone {o : List Snp} {i : Nat} {y : Snp} (hi : i < o.length) : lessL o i y false (i + 1) = lessL o i y false i := by
  simp only [lessL, Bool.false_eq_true, if_false]
  rw [List.take_succ_eq_append_getElem hi, List.eraseIdx_append_of_length_le (by rw [List.length_take]; omega), List.length_take, Nat.min_eq_left (by omega), Nat.sub_self]
  rw [List.eraseIdx_of_length_le (l := o.take i) (by rw [List.length_take]; omega)]
  simp
theorem lessL_bad {o : List Snp} {i : Nat} {y : Snp} (hi : i < o.length) : lessL o i y true (i + 1) = lessL o i y true i ++ [y] := by
  simp only [lessL, if_true]
  rw [List.take_succ_eq_append_getElem (by rw [List.length_set]; exact hi), List.getElem_set_self]
theorem lessL_other {o : List Snp} {i q : Nat} {y : Snp} {bad : Bool} (hq : q < o.length) (hne : q ≠ i) : lessL o i y bad (q + 1) = lessL o i y bad q ++ [o[q]] := by
  cases bad with
  | true =>
    simp only [lessL, if_true]
    rw [List.take_succ_eq_append_getElem (by rw [List.length_set]; exact hq), List.getElem_set_ne (fun e => hne e.symm)]
  | false =>
    simp only [lessL, Bool.false_eq_true, if_false]
    rw [List.take_succ_eq_append_getElem hq]
    rcases Nat.lt_or_ge i q with h | h
    · rw [List.eraseIdx_append_of_lt_length (by rw [List.length_take]; omega)]
    · rw [List.eraseIdx_of_length_le (by rw [List.length_append, List.length_take]; simp; omega), List.eraseIdx_of_length_le (by rw [List.length_take]; omega)]
theorem lessL_len {o : List Snp} {i q : Nat} {y : Snp} {bad : Bool} : (lessL o i y bad q).length ≤ q := by
  unfold lessL
  split
  · rw [List.length_take]; omega
  · have := List.length_eraseIdx_le (o.take q) i
    rw [List.length_take] at this; omega
theorem lessL_mem {o : List Snp} {i q : Nat} {y z : Snp} {bad : Bool} (h : z ∈ lessL o i y bad q) : z = y ∨ z ∈ o := by
  unfold lessL at h
  split at h
  · exact (List.mem_or_eq_of_mem_set (List.mem_of_mem_take h)).symm
  · exact .inr (List.mem_of_mem_take (List.mem_of_mem_eraseIdx h))
theorem lessL_up {o : List Snp} {i q : Nat} {y : Snp} {bad : Bool} (hu : upS (namesR o)) (hi : i < o.length) (hy : y.1 = o[i].1) : upS (namesR (lessL o i y bad q)) := by
  unfold lessL
  split
  · have h1 : namesR (o.set i y) = namesR o := by
      unfold namesR
      rw [List.map_set, hy]
      have hm : i < (o.map (fun x : Snp => x.1)).length := by rw [List.length_map]; exact hi
      have e : (o.map (fun x : Snp => x.1)).set i ((o.map (fun x : Snp => x.1))[i]) = o.map (fun x : Snp => x.1) := List.set_getElem_self _
      rw [List.getElem_map] at e
      exact e
    have h2 : (namesR ((o.set i y).take q)).Sublist (namesR (o.set i y)) := (List.take_sublist q _).map _
    exact List.Pairwise.sublist (by rw [h1] at h2; exact h2) hu
  · exact List.Pairwise.sublist ((((List.eraseIdx_sublist (o.take q) i).trans (List.take_sublist q _))).map _) hu

/-- What a tree's objects are to the fetcher. -/
structure LessT (key : List UInt8) (o : List Snp) (l : List Itm) (rs : List (List UInt8)) : Prop where
  len : o.length ≤ 70000
  pos : 0 < o.length
  raw : ∀ x ∈ o, x.2.length ≤ 100000
  fit : fit5 (namesR o) = true
  up : upS (namesR o)
  add : ∀ x rs', (∀ r ∈ rs, r ∈ rs') → ¬ ClashP rs' → toldC (addO o x) key = (l, 0)
  gone : ∀ i (hi : i < o.length) rs', (∀ r ∈ rs, r ∈ rs') → ¬ ClashP rs' → toldC (lessL o i (o[i].1, o[i].2 ++ [120]) false o.length) key = ([], 5)
  bad : ∀ i (hi : i < o.length) rs', (∀ r ∈ rs, r ∈ rs') → o[i].2 ++ [120] ∈ rs' → ¬ ClashP rs' → toldC (lessL o i (o[i].1, o[i].2 ++ [120]) true o.length) key = ([], 11)
theorem add_raw {o : List Snp} {x y : Snp} {B : Nat} (h : ∀ z ∈ o, z.2.length ≤ B) (hx : x.2.length ≤ B) (hy : y ∈ addO o x) : y.2.length ≤ B := by
  unfold addO at hy
  split at hy
  · exact h y hy
  · rcases mem_insO.1 hy with rfl | hy
    · exact hx
    · exact h y hy
theorem clash_mono {rs rs' : List (List UInt8)} (hs : ∀ r ∈ rs, r ∈ rs') (h : ¬ ClashP rs') : ¬ ClashP rs := fun ⟨a, ha, b, hb, hab⟩ => h ⟨a, hs a ha, b, hs b hb, hab⟩
theorem Ready.less {pc : List UInt8 → List (List UInt8)} {items : List Itm} (h : Ready pc items) : LessT (keyN (dirN pc items 9 [])) (dirO pc items 9 [] []) items (rawsN (nodesD pc items 9 [])) := by
  have hA := h.among 9 [] [] (.inl rfl) rfl ⟨rfl, by simp [namesR]⟩
  have hns := nodesD_fit h 9 []
  have hu := fit5_up12 hA.1
  refine ⟨Nat.le_trans hA.len h.keys_len, ?_, fun x hx => objs_raw h hx, hA.1, hu, fun x rs' hs hc => ?_, fun i hi rs' hs hc => ?_, fun i hi rs' hs hm hc => ?_⟩
  · have h1 := fold_key (o := []) _ rfl hns _ (nodesD_top 9 [])
    rw [← dirO_fold] at h1
    rcases Nat.eq_zero_or_pos (dirO pc items 9 [] []).length with e | e
    · rw [List.length_eq_zero_iff.1 e] at h1; simp [namesR] at h1
    · exact e
  · have h1 := told_back h (loads_add h (one_of_clash hns (clash_mono hs hc)) x)
    unfold toldC
    rw [h1]; rfl
  · obtain ⟨n, hn, e⟩ := obj_node h (List.getElem_mem hi)
    have h1 := told_less h (less_gone h (one_of_clash hns (clash_mono hs hc)) hi hn e) hn
    have h2 : lessL (dirO pc items 9 [] []) i ((dirO pc items 9 [] [])[i].1, (dirO pc items 9 [] [])[i].2 ++ [120]) false (dirO pc items 9 [] []).length = (dirO pc items 9 [] []).eraseIdx i := by
      simp only [lessL, Bool.false_eq_true, if_false, List.take_length]
    rw [h2]
    exact told_code h1 (by decide)
  · obtain ⟨n, hn, e⟩ := obj_node h (List.getElem_mem hi)
    have e1 : (dirO pc items 9 [] [])[i].1 = keyN n := by rw [e]
    have e2 : (dirO pc items 9 [] [])[i].2 = writeN n := by rw [e]
    have h1 := told_less h (less_bad h hc hs hi hn e hm (by rw [e2]; intro e; have := congrArg List.length e; simp at this)) hn
    have h2 : lessL (dirO pc items 9 [] []) i ((dirO pc items 9 [] [])[i].1, (dirO pc items 9 [] [])[i].2 ++ [120]) true (dirO pc items 9 [] []).length = (dirO pc items 9 [] []).set i (keyN n, (dirO pc items 9 [] [])[i].2 ++ [120]) := by
      simp only [lessL, if_true]
      rw [List.take_of_length_le (by rw [List.length_set]; exact Nat.le_refl _), e1]
    rw [h2]
    exact told_code h1 (by decide)
end Go.Proofs.YtkejdbidomlonaaGreatDoor
