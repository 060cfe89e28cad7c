/- A tree can be: item by item. No program in sight. -/
import Derived.Test.YtnegnjagiejncaaDoorR10c
namespace Go.Proofs.YtnegnjagiejncaaDoor

/-- A directory is there, or none is asked for. -/
def dirT (l : List Itm) (d : List UInt8) : Bool := d == [] || (match findT l d with | some y => y.2.1 | none => false)
theorem underT_dir (l : List Itm) (p : List UInt8) : underT l p = dirT l (dirL p) := rfl
theorem findT_snoc (l : List Itm) (x : Itm) (d : List UInt8) : findT (l ++ [x]) d = (findT l d).or (if x.1 = d then some x else none) := by
  unfold findT
  rw [List.find?_append]
  congr 1
  by_cases h : x.1 = d
  · rw [if_pos h, List.find?_cons_of_pos (by simpa using h)]
  · rw [if_neg h, List.find?_cons_of_neg (by simpa using h)]; rfl
theorem dirT_mono {l : List Itm} {x : Itm} {d : List UInt8} (h : dirT l d = true) : dirT (l ++ [x]) d = true := by
  unfold dirT at h ⊢
  rw [Bool.or_eq_true] at h ⊢
  rcases h with h | h
  · exact .inl h
  · right
    cases hf : findT l d with
    | none => rw [hf] at h; cases h
    | some y => rw [findT_snoc, hf]; rw [hf] at h; exact h
/-- The first items, each of which can be behind those ahead of it. -/
structure FitK (l : List Itm) (k : Nat) : Prop where
  up : upT ((l.take k).map (·.1))
  ok : ∀ x ∈ l.take k, okT (l.take k) x = true
theorem FitK.start (l : List Itm) : FitK l 0 := ⟨by simp [upT], by simp⟩
theorem FitK.next {l : List Itm} {k : Nat} (h : FitK l k) (h1 : k < l.length) (hu : upT ((l.take (k + 1)).map (·.1))) (hx : fitB l[k].1 = true) (ho : oddT l[k] = false) (hd : l[k].2.2.2.length ≤ 32768) (hdir : dirT (l.take k) (dirL l[k].1) = true) : FitK l (k + 1) := by
  refine ⟨hu, ?_⟩
  intro x hm
  rw [List.take_succ_eq_append_getElem h1] at hm ⊢
  rcases List.mem_append.1 hm with h2 | h2
  · have h3 := h.ok x h2
    unfold okT at h3 ⊢
    simp only [Bool.and_eq_true] at h3 ⊢
    exact ⟨h3.1, h3.2.1, h3.2.2.1, by rw [underT_dir] at *; exact dirT_mono h3.2.2.2⟩
  · simp at h2; subst h2
    unfold okT
    rw [hx, ho, decide_eq_true hd, underT_dir, dirT_mono hdir]; rfl
theorem FitK.end_ {l : List Itm} (h : FitK l l.length) (hl : l.length ≤ 60) (hs : sizeT l ≤ 65536) : FitT l := by
  have h1 := h.up
  have h2 := h.ok
  rw [List.take_of_length_le (Nat.le_refl _)] at h1 h2
  exact ⟨hl, h1, h2, hs⟩
/-- In a tree that can be, each item's directory stands ahead of it. -/
theorem FitK.dir {l : List Itm} {k : Nat} (h : FitK l k) (h1 : k < l.length) (hd : dirT (l.take k) (dirL l[k].1) = false) : ¬ FitT l := by
  intro hf
  have ho := hf.ok l[k] (List.getElem_mem h1)
  unfold okT at ho
  simp only [Bool.and_eq_true] at ho
  have hu := ho.2.2.2
  unfold underT at hu
  unfold dirT at hd
  rw [Bool.or_eq_false_iff] at hd
  rw [hd.1, Bool.false_or] at hu
  have hne : dirL l[k].1 ≠ [] := by have := hd.1; rwa [beq_eq_false_iff_ne] at this
  cases hfy : findT l (dirL l[k].1) with
  | none => rw [hfy] at hu; cases hu
  | some y =>
    rw [hfy] at hu
    obtain ⟨hy, e⟩ := findT_mem hfy
    obtain ⟨t, ht⟩ := belowT_iff.1 (dirL_of hne)
    have hlt : ltP y.1 l[k].1 = true := by
      have h3 := orderL_below (dirL l[k].1) t
      rw [← ht] at h3
      rw [e]
      exact ltP_iff.2 h3
    obtain ⟨i, hi, rfl⟩ := List.mem_iff_getElem.1 hy
    have hik : i < k := by
      apply Classical.byContradiction
      intro hn
      rcases Nat.lt_or_ge k i with h2 | h2
      · have hup := hf.up
        unfold upT at hup
        rw [List.pairwise_map] at hup
        have := ltP_trans hlt (List.pairwise_iff_getElem.1 hup k i h1 hi h2)
        rw [ltP_irrefl] at this; cases this
      · obtain rfl : i = k := by omega
        rw [ltP_irrefl] at hlt; cases hlt
    have hm : l[i] ∈ l.take k := List.mem_take_iff_getElem.2 ⟨i, by omega, rfl⟩
    have := findT_of h.up hm
    rw [e] at this
    have h2 := hd.2
    rw [this] at h2
    have hu3 : l[i].2.1 = true := hu
    have h3 : l[i].2.1 = false := h2
    rw [hu3] at h3; cases h3
theorem dirT_nil : dirT [] = fun d => d == [] := by
  funext d; unfold dirT findT; simp
theorem dirT_step {l : List Itm} {k : Nat} (h1 : k < l.length) (hu : upT ((l.take (k + 1)).map (·.1))) (hx : fitB l[k].1 = true) : (fun d => if d = l[k].1 then l[k].2.1 else dirT (l.take k) d) = dirT (l.take (k + 1)) := by
  funext d
  have hne : l[k].1 ≠ [] := by intro e; rw [e] at hx; revert hx; decide
  split
  · rename_i h
    have hm : l[k] ∈ l.take (k + 1) := List.mem_take_iff_getElem.2 ⟨k, by omega, rfl⟩
    have := findT_of hu hm
    unfold dirT
    rw [h, this, beq_eq_false_iff_ne.2 hne]; rfl
  · rename_i h
    unfold dirT
    rw [List.take_succ_eq_append_getElem h1, findT_snoc, if_neg (fun e => h e.symm), Option.or_none]
end Go.Proofs.YtnegnjagiejncaaDoor
