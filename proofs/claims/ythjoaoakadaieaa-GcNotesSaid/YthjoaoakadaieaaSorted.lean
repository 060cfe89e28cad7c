/- Rows that rise by a text: what stands ahead of it, behind it, at it. -/
import Derived.Test.YthjoaoakadaieaaCmp
import Derived.Test.YthjoaoakadaieaaDiskPlain
namespace Go.Proofs.Ythjoaoakadaieaa

section
variable {α : Type} {key : α → List UInt8} {n : List UInt8}
theorem posL_cons_lt {x : α} {xs : List α} (h : key x < n) : posL ((x :: xs).map key) n = posL (xs.map key) n + 1 := by
  unfold posL; rw [List.map_cons, List.takeWhile_cons_of_pos (by simpa using h)]; rfl
theorem posL_cons_ge {x : α} {xs : List α} (h : ¬ key x < n) : posL ((x :: xs).map key) n = 0 := by
  unfold posL; rw [List.map_cons, List.takeWhile_cons_of_neg (by simpa using h)]; rfl
theorem up_tail {x : α} {xs : List α} (hu : upS ((x :: xs).map key)) : upS (xs.map key) ∧ ∀ y ∈ xs, key x < key y := by
  unfold upS at *
  rw [List.map_cons, List.pairwise_cons] at hu
  exact ⟨hu.2, fun y hy => hu.1 _ (List.mem_map_of_mem hy)⟩
theorem filt_lt : ∀ {l : List α}, upS (l.map key) → l.filter (fun y => decide (key y < n)) = l.take (posL (l.map key) n)
  | [], _ => by simp
  | x :: xs, hu => by
    obtain ⟨h1, h2⟩ := up_tail hu
    by_cases hx : key x < n
    · rw [posL_cons_lt hx, List.take_succ_cons, List.filter_cons_of_pos (by simpa using hx), filt_lt h1]
    · rw [posL_cons_ge hx, List.take_zero, List.filter_eq_nil_iff]
      intro y hy
      simp only [decide_eq_true_eq]
      rcases List.mem_cons.1 hy with rfl | hy
      · exact hx
      · exact fun h => hx (List.lt_trans (h2 y hy) h)
theorem filt_gt : ∀ {l : List α}, upS (l.map key) → l.filter (fun y => decide (n < key y)) = if n ∈ l.map key then l.drop (posL (l.map key) n + 1) else l.drop (posL (l.map key) n)
  | [], _ => by simp
  | x :: xs, hu => by
    obtain ⟨h1, h2⟩ := up_tail hu
    have ih := filt_gt h1
    rcases lt_or_eq_or_gt (key x) n with hx | hx | hx
    · have hne : n ≠ key x := by rintro e; rw [← e] at hx; exact List.lt_irrefl _ hx
      rw [posL_cons_lt hx, List.filter_cons_of_neg (by simpa using not_lt_of hx), ih]
      by_cases hm : n ∈ xs.map key
      · rw [if_pos hm, if_pos (by rw [List.map_cons]; exact List.mem_cons_of_mem _ hm)]; rfl
      · rw [if_neg hm, if_neg (by rw [List.map_cons, List.mem_cons]; exact fun h => h.elim hne hm)]; rfl
    · have hge : ¬ key x < n := by rw [hx]; exact List.lt_irrefl _
      rw [posL_cons_ge hge, if_pos (by rw [List.map_cons, hx]; exact List.mem_cons_self), List.filter_cons_of_neg (by rw [hx]; simp [List.lt_irrefl n])]
      show _ = xs
      rw [List.filter_eq_self]
      intro y hy
      have := h2 y hy
      rw [hx] at this
      simpa using this
    · have hge : ¬ key x < n := not_lt_of hx
      have hm : n ∉ (x :: xs).map key := by
        rw [List.mem_map]
        rintro ⟨y, hy, rfl⟩
        rcases List.mem_cons.1 hy with rfl | hy
        · exact List.lt_irrefl _ hx
        · exact List.lt_irrefl _ (List.lt_trans hx (h2 y hy))
      rw [posL_cons_ge hge, if_neg hm]
      show _ = x :: xs
      rw [List.filter_eq_self]
      intro y hy
      rcases List.mem_cons.1 hy with rfl | hy
      · simpa using hx
      · simpa using List.lt_trans hx (h2 y hy)
theorem filt_ne : ∀ {l : List α}, upS (l.map key) → l.filter (fun y => !(key y == n)) = l.filter (fun y => decide (key y < n)) ++ l.filter (fun y => decide (n < key y))
  | [], _ => by simp
  | x :: xs, hu => by
    obtain ⟨h1, h2⟩ := up_tail hu
    have ih := filt_ne h1
    rcases lt_or_eq_or_gt (key x) n with hx | hx | hx
    · rw [List.filter_cons_of_pos (by simpa using (beq_of_lt hx).1), ih, List.filter_cons_of_pos (p := fun y => decide (key y < n)) (by simpa using hx), List.filter_cons_of_neg (p := fun y => decide (n < key y)) (by simpa using not_lt_of hx)]
      rfl
    · rw [List.filter_cons_of_neg (by simp [hx]), ih, List.filter_cons_of_neg (p := fun y => decide (key y < n)) (by rw [hx]; simp [List.lt_irrefl n]), List.filter_cons_of_neg (p := fun y => decide (n < key y)) (by rw [hx]; simp [List.lt_irrefl n])]
    · have e : xs.filter (fun y => decide (key y < n)) = [] := by
        rw [List.filter_eq_nil_iff]; intro y hy; simpa using not_lt_of (List.lt_trans hx (h2 y hy))
      rw [List.filter_cons_of_pos (by simpa using (beq_of_lt hx).2), ih, e, List.filter_cons_of_neg (p := fun y => decide (key y < n)) (by simpa using not_lt_of hx), e, List.filter_cons_of_pos (p := fun y => decide (n < key y)) (by simpa using hx)]
      rfl
theorem withK_up {l : List α} {f : α} (hu : upS (l.map key)) : withK key l f = l.take (posL (l.map key) (key f)) ++ f :: (if key f ∈ l.map key then l.drop (posL (l.map key) (key f) + 1) else l.drop (posL (l.map key) (key f))) := by
  unfold withK; rw [filt_lt hu, filt_gt hu]
theorem withoutK_up {l : List α} (hu : upS (l.map key)) : withoutK key l n = l.take (posL (l.map key) n) ++ (if n ∈ l.map key then l.drop (posL (l.map key) n + 1) else l.drop (posL (l.map key) n)) := by
  unfold withoutK; rw [filt_ne hu, filt_lt hu, filt_gt hu]
theorem pos_lt {l : List α} (hu : upS (l.map key)) (h : n ∈ l.map key) : ∃ hk : posL (l.map key) n < l.length, key l[posL (l.map key) n] = n := by
  have h1 := (mem_at_pos hu).1 h
  have hlt : posL (l.map key) n < l.length := by
    have := (List.getElem?_eq_some_iff.1 h1).1; simpa using this
  refine ⟨hlt, ?_⟩
  rw [List.getElem?_eq_getElem (by simpa using hlt), Option.some.injEq] at h1
  simpa using h1
theorem find_up {l : List α} (hu : upS (l.map key)) (h : n ∈ l.map key) : ∃ hk : posL (l.map key) n < l.length, l.find? (fun y => key y == n) = some l[posL (l.map key) n] := by
  obtain ⟨hk, he⟩ := pos_lt hu h
  refine ⟨hk, ?_⟩
  have e : l = l.take (posL (l.map key) n) ++ l[posL (l.map key) n] :: l.drop (posL (l.map key) n + 1) := by simp
  have hn : (l.take (posL (l.map key) n)).find? (fun y => key y == n) = none := by
    rw [← filt_lt hu, List.find?_eq_none]
    intro y hy
    rw [List.mem_filter] at hy
    have := beq_of_lt (show key y < n by simpa using hy.2)
    simpa using this.1
  generalize posL (l.map key) n = k at *
  generalize hy : l[k] = y at *
  rw [e, List.find?_append, hn]
  simp [he]
theorem find_none {l : List α} (h : n ∉ l.map key) : l.find? (fun y => key y == n) = none := by
  rw [List.find?_eq_none]
  intro y hy
  simp only [beq_iff_eq]
  rintro rfl
  exact h (List.mem_map_of_mem hy)
theorem withK_up' {l : List α} {f : α} (hu : upS (l.map key)) : upS ((withK key l f).map key) := by
  unfold upS withK at *
  rw [List.map_append, List.map_cons, List.pairwise_append, List.pairwise_cons]
  have hs1 : (l.filter (fun y => decide (key y < key f))).Sublist l := List.filter_sublist
  have hs2 : (l.filter (fun y => decide (key f < key y))).Sublist l := List.filter_sublist
  refine ⟨hu.sublist (hs1.map key), ⟨?_, hu.sublist (hs2.map key)⟩, ?_⟩
  · intro a ha
    obtain ⟨y, hy, rfl⟩ := List.mem_map.1 ha
    rw [List.mem_filter] at hy
    simpa using hy.2
  · intro a ha b hb
    obtain ⟨y, hy, rfl⟩ := List.mem_map.1 ha
    rw [List.mem_filter] at hy
    have h1 : key y < key f := by simpa using hy.2
    rcases List.mem_cons.1 hb with rfl | hb
    · exact h1
    · obtain ⟨z, hz, rfl⟩ := List.mem_map.1 hb
      rw [List.mem_filter] at hz
      exact List.lt_trans h1 (by simpa using hz.2)
theorem withoutK_up' {l : List α} (hu : upS (l.map key)) : upS ((withoutK key l n).map key) := by
  have hs1 : (l.filter (fun y => !(key y == n))).Sublist l := List.filter_sublist
  exact List.Pairwise.sublist (hs1.map key) hu
end
end Go.Proofs.Ythjoaoakadaieaa
