/- Rows of two texts each, by the first: find, put in; plain. -/
import Derived.Test.YtffdcnhpjgpcdaaGreatDoorCellsB
import Derived.Test.YtffdcnhpjgpcdaaGreatDoorJKey
import Derived.Test.YtffdcnhpjgpcdaaGreatDoorJRow
namespace Go.Proofs.YtffdcnhpjgpcdaaGreatDoor

def findR (l : List Snp) (n : List UInt8) : Option (List UInt8) := (l.find? (fun x => x.1 == n)).map (·.2)
def rootOf : Option (List UInt8) → List UInt8 | some r => r | none => []

theorem findR_at {l : List Snp} {n : List UInt8} {k : Nat} (h : k < l.length) (he : l[k].1 = n) (hk : findR (l.take k) n = none) : findR l n = some l[k].2 := by
  unfold findR at hk ⊢
  rw [Option.map_eq_none_iff] at hk
  have e : l = l.take k ++ l[k] :: l.drop (k + 1) := by simp
  generalize l[k] = y at e he ⊢
  rw [e, List.find?_append, hk]
  simp [he]
theorem findR_step {l : List Snp} {n : List UInt8} {k : Nat} (h : k < l.length) (he : l[k].1 ≠ n) (hk : findR (l.take k) n = none) : findR (l.take (k + 1)) n = none := by
  unfold findR at hk ⊢
  rw [Option.map_eq_none_iff] at hk ⊢
  rw [List.take_succ_eq_append_getElem h, List.find?_append, hk]
  simp [he]

def insR (l : List Snp) (x : Snp) : List Snp := l.takeWhile (fun y => !decide (x.1 < y.1)) ++ x :: l.dropWhile (fun y => !decide (x.1 < y.1))
/-- Put's round: nothing behind x seen so far, or x put. -/
theorem ins_wait {l : List Snp} {x : Snp} {k : Nat} (h : k < l.length) (ha : ∀ y ∈ l.take k, ¬ x.1 < y.1) (hn : ¬ x.1 < l[k].1) : ∀ y ∈ l.take (k + 1), ¬ x.1 < y.1 := by
  intro y hy
  rw [List.take_succ_eq_append_getElem h, List.mem_append] at hy
  rcases hy with hy | hy
  · exact ha y hy
  · simp at hy; rw [hy]; exact hn
theorem ins_now {l : List Snp} {x : Snp} {k : Nat} (h : k < l.length) (ha : ∀ y ∈ l.take k, ¬ x.1 < y.1) (hn : x.1 < l[k].1) : insR l x = (l.take k ++ [x]) ++ l.drop k := by
  have e : l = l.take k ++ l[k] :: l.drop (k + 1) := by simp
  have e2 : l.drop k = l[k] :: l.drop (k + 1) := List.drop_eq_getElem_cons h
  rw [e2]
  generalize l[k] = z at *
  clear h
  generalize l.take k = A at *
  generalize l.drop (k + 1) = B at *
  unfold insR
  rw [e, List.takeWhile_append_of_pos (by intro y hy; simpa using ha y (by simpa using hy)), List.dropWhile_append_of_pos (by intro y hy; simpa using ha y (by simpa using hy))]
  simp [hn]
theorem ins_end {l : List Snp} {x : Snp} (ha : ∀ y ∈ l, ¬ x.1 < y.1) : insR l x = l ++ [x] := by
  have h1 := List.takeWhile_append_of_pos (p := fun y : Snp => !decide (x.1 < y.1)) (l₁ := l) (l₂ := []) (by intro y hy; simpa using ha y hy)
  have h2 := List.dropWhile_append_of_pos (p := fun y : Snp => !decide (x.1 < y.1)) (l₁ := l) (l₂ := []) (by intro y hy; simpa using ha y hy)
  rw [List.append_nil] at h1 h2
  unfold insR
  rw [h1, h2]
  simp

def namesR (l : List Snp) : List (List UInt8) := l.map (·.1)
theorem namesR_len (l : List Snp) : (namesR l).length = l.length := by simp [namesR]
theorem findR_none {l : List Snp} {n : List UInt8} (h : n ∉ namesR l) : findR l n = none := by
  unfold findR namesR at *
  rw [Option.map_eq_none_iff, List.find?_eq_none]
  intro x hx
  simp only [beq_iff_eq]
  rintro rfl
  exact h (List.mem_map_of_mem hx)
theorem findR_pos {l : List Snp} {n : List UInt8} (hu : upS (namesR l)) (h : n ∈ namesR l) : ∃ hk : posL (namesR l) n < l.length, findR l n = some l[posL (namesR l) n].2 := by
  have h1 := (mem_at_pos hu).1 h
  have hlt : posL (namesR l) n < l.length := by
    have := (List.getElem?_eq_some_iff.1 h1).1
    rwa [namesR_len] at this
  have h2 : l[posL (namesR l) n].1 = n := by
    rw [List.getElem?_eq_getElem (by rw [namesR_len]; exact hlt), Option.some.injEq] at h1
    simpa [namesR] using h1
  refine ⟨hlt, findR_at hlt h2 ?_⟩
  unfold findR
  rw [Option.map_eq_none_iff, List.find?_eq_none]
  intro x hx
  simp only [beq_iff_eq]
  rintro he
  obtain ⟨j, hj, rfl⟩ := List.mem_iff_getElem.1 hx
  rw [List.length_take] at hj
  rw [List.getElem_take] at he
  have hp := List.pairwise_iff_getElem.1 hu j (posL (namesR l) n) (by rw [namesR_len]; omega) (by rw [namesR_len]; exact hlt) (by omega)
  simp only [namesR, List.getElem_map] at hp
  rw [he] at hp
  simp only [namesR] at h2
  rw [h2] at hp
  exact List.lt_irrefl _ hp

theorem takeWhile_len {α : Type} (p : α → Bool) (l : List α) : l.take (l.takeWhile p).length = l.takeWhile p ∧ l.drop (l.takeWhile p).length = l.dropWhile p := by
  have h := List.takeWhile_append_dropWhile (p := p) (l := l)
  generalize l.takeWhile p = A at *
  generalize l.dropWhile p = D at *
  subst h
  simp
theorem insR_pos {l : List Snp} {x : Snp} (h : x.1 ∉ namesR l) : insR l x = l.take (posL (namesR l) x.1) ++ x :: l.drop (posL (namesR l) x.1) := by
  have hc : ∀ y ∈ l, (fun y : Snp => decide (y.1 < x.1)) y = (fun y : Snp => !decide (x.1 < y.1)) y := by
    intro y hy
    have hne : y.1 ≠ x.1 := by rintro e; exact h (e ▸ List.mem_map_of_mem hy)
    rcases lt_or_eq_or_gt y.1 x.1 with h1 | h1 | h1
    · simp [h1, not_lt_of h1]
    · exact absurd h1 hne
    · simp [h1, not_lt_of h1]
  have hp : posL (namesR l) x.1 = (l.takeWhile (fun y : Snp => !decide (x.1 < y.1))).length := by
    unfold posL namesR
    rw [List.takeWhile_map, List.length_map]
    congr 1
    clear h
    induction l with
    | nil => rfl
    | cons y l ih =>
      have h1 := hc y List.mem_cons_self
      simp only at h1
      simp only [List.takeWhile_cons, Function.comp, h1]
      split
      · rw [ih (fun z hz => hc z (List.mem_cons_of_mem _ hz))]
      · rfl
  obtain ⟨h1, h2⟩ := takeWhile_len (fun y : Snp => !decide (x.1 < y.1)) l
  unfold insR
  rw [hp, h1, h2]
theorem flat_ins (l : List Snp) (x : Snp) (k : Nat) : (l.flatMap snpC).take (k * 2) ++ (snpC x ++ (l.flatMap snpC).drop (k * 2)) = (l.take k ++ x :: l.drop k).flatMap snpC := by
  rw [flat_take (K := 2) (fun _ => rfl), flat_drop (K := 2) (fun _ => rfl), List.flatMap_append, List.flatMap_cons]
/-- How many bytes there are. -/
def rawsL (o : List Snp) : Nat := (o.map (fun x : Snp => x.2.length)).sum
theorem rawsL_step {l : List Snp} {k : Nat} (h : k < l.length) : rawsL (l.take (k + 1)) = rawsL (l.take k) + l[k].2.length := by
  unfold rawsL
  rw [List.take_succ_eq_append_getElem h, List.map_append, List.sum_append]; simp
end Go.Proofs.YtffdcnhpjgpcdaaGreatDoor
