/- Objects, and one more: plain. -/
import Derived.Test.YtffdcnhpjgpcdaaGreatDoorSnpPlain
import Derived.Test.YtffdcnhpjgpcdaaGreatDoorJKey
namespace Go.Proofs.YtffdcnhpjgpcdaaGreatDoor

def addO (l : List Snp) (x : Snp) : List Snp := if (findR l x.1).isSome = true ∨ x.1.length ≠ 32 then l else insR l x
theorem findR_is {l : List Snp} {n : List UInt8} (hu : upS (namesR l)) : (findR l n).isSome = decide (n ∈ namesR l) := by
  by_cases hin : n ∈ namesR l
  · obtain ⟨_, hf⟩ := findR_pos hu hin
    rw [hf]; simp [hin]
  · rw [findR_none hin]; simp [hin]
theorem names_ins {l : List Snp} {x : Snp} (hu : upS (namesR l)) (hx : x.1 ∉ namesR l) : namesR (insR l x) = addL (namesR l) x.1 := by
  have h2 := withK_up (key := (id : List UInt8 → List UInt8)) (l := namesR l) (f := x.1) (by simpa using hu)
  rw [insR_pos hx]
  unfold addL
  rw [if_neg hx, h2]
  simp only [List.map_id, id]
  rw [if_neg hx]
  simp [namesR, List.map_take, List.map_drop]
theorem insO_len {l : List Snp} {x : Snp} (hx : x.1 ∉ namesR l) : (insR l x).length = l.length + 1 := by
  have h := posL_le (namesR l) x.1
  rw [namesR_len] at h
  rw [insR_pos hx]; simp; omega
theorem addO_len (l : List Snp) (x : Snp) : (addO l x).length ≤ l.length + 1 := by
  unfold addO
  split
  · omega
  · rw [show (insR l x).length = l.length + 1 from by
      unfold insR
      have := congrArg List.length (List.takeWhile_append_dropWhile (p := fun y => !decide (x.1 < y.1)) (l := l))
      rw [List.length_append] at this
      simp only [List.length_append, List.length_cons]; omega]
    exact Nat.le_refl _
theorem mem_insO {l : List Snp} {x y : Snp} : y ∈ insR l x ↔ y = x ∨ y ∈ l := by
  unfold insR
  rw [List.mem_append, List.mem_cons]
  have h : y ∈ l ↔ y ∈ l.takeWhile (fun y => !decide (x.1 < y.1)) ∨ y ∈ l.dropWhile (fun y => !decide (x.1 < y.1)) := by
    rw [← List.mem_append, List.takeWhile_append_dropWhile]
  rw [h]
  constructor
  · rintro (h1 | h1 | h1)
    · exact .inr (.inl h1)
    · exact .inl h1
    · exact .inr (.inr h1)
  · rintro (h1 | h1 | h1)
    · exact .inr (.inl h1)
    · exact .inl h1
    · exact .inr (.inr h1)
theorem upN_of12 : ∀ {l : List (List UInt8)}, upS l → upN l = true
  | [], _ => rfl
  | [_], _ => rfl
  | a :: b :: t, h => by
    unfold upN
    unfold upS at h
    rw [Bool.and_eq_true, decide_eq_true_eq]
    exact ⟨(List.pairwise_cons.1 h).1 b (by simp), upN_of12 (l := b :: t) (List.pairwise_cons.1 h).2⟩
theorem fit5_up12 {m : List (List UInt8)} (h : fit5 m = true) : upS m := by
  unfold fit5 at h
  rw [Bool.and_eq_true] at h
  exact upN_pairs _ h.2
theorem fit5_len12 {l : List (List UInt8)} (h : fit5 l = true) : ∀ x ∈ l, x.length = 32 := by
  unfold fit5 at h
  rw [Bool.and_eq_true, List.all_eq_true] at h
  intro x hx
  simpa using h.1 x hx
theorem addO_fit {l : List Snp} {x : Snp} (h : fit5 (namesR l) = true) : fit5 (namesR (addO l x)) = true := by
  unfold addO
  split
  · exact h
  · rename_i hc
    have hu := fit5_up12 h
    have hx : x.1 ∉ namesR l := fun hin => hc (.inl (by rw [findR_is hu]; simpa using hin))
    have h32 : x.1.length = 32 := Classical.byContradiction fun h => hc (.inr h)
    rw [names_ins hu hx]
    refine fit5_all (fun y hy => ?_) (upN_of12 (addL_up hu))
    rcases addL_mem.1 hy with rfl | hy
    · exact h32
    · exact fit5_len12 h y hy
theorem find_mem : ∀ {l : List Snp}, upS (namesR l) → ∀ y ∈ l, findR l y.1 = some y.2
  | z :: t, hu, y, hy => by
    unfold namesR upS at hu
    rw [List.map_cons, List.pairwise_cons] at hu
    unfold findR
    by_cases h : z.1 = y.1
    · rcases List.mem_cons.1 hy with rfl | hy
      · rw [List.find?_cons_of_pos (by simp)]; rfl
      · exact absurd (hu.1 y.1 (List.mem_map.2 ⟨y, hy, rfl⟩)) (by rw [h]; exact List.lt_irrefl _)
    · rcases List.mem_cons.1 hy with rfl | hy
      · exact absurd rfl h
      · have ih := find_mem (l := t) hu.2 y hy
        unfold findR at ih
        rw [List.find?_cons_of_neg (by simpa using h)]; exact ih
/-- What was added is found, and all that was there. -/
theorem addO_finds {l : List Snp} {x : Snp} (hu : upS (namesR l)) (hx : x.1 ∉ namesR l) : findR (insR l x) x.1 = some x.2 ∧ ∀ y ∈ l, findR (insR l x) y.1 = some y.2 := by
  have h := addL_up (k := x.1) hu
  rw [← names_ins hu hx] at h
  exact ⟨find_mem h x (mem_insO.2 (.inl rfl)), fun y hy => find_mem h y (mem_insO.2 (.inr hy))⟩
end Go.Proofs.YtffdcnhpjgpcdaaGreatDoor
