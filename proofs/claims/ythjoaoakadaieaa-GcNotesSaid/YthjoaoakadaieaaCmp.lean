/- cmp.Compare at texts; looking by halves, in plain lists. -/
import Derived.Test.YthjoaoakadaieaaLater
import Derived.WalkLawsBesides
import Derived.Sort.Walk0
namespace Go.Proofs.Ythjoaoakadaieaa
open Go.RowKit

def cmpS (p n : List UInt8) : Int := if p < n then -1 else if n < p then 1 else 0
theorem cmpS_lt {p n : List UInt8} (h : p < n) : cmpS p n = -1 := by simp [cmpS, h]
theorem cmpS_eq (p : List UInt8) : cmpS p p = 0 := by simp [cmpS, List.lt_irrefl]
theorem cmpS_gt {p n : List UInt8} (h : n < p) : cmpS p n = 1 := by
  have : ¬ p < n := fun h2 => List.lt_irrefl _ (List.lt_trans h h2)
  simp [cmpS, h, this]

theorem less_true {p n : List UInt8} (h : p < n) : Op.bytesLess p n = true := by rw [bytesLess_eq]; simpa using h
theorem less_false {p n : List UInt8} (h : ¬ p < n) : Op.bytesLess p n = false := by rw [bytesLess_eq]; simpa using h
theorem not_lt_of {p n : List UInt8} (h : p < n) : ¬ n < p := fun h2 => List.lt_irrefl _ (List.lt_trans h h2)
theorem beq_of_lt {p n : List UInt8} (h : p < n) : (p == n) = false ∧ (n == p) = false := by
  constructor <;> (rw [beq_eq_false_iff_ne]; rintro rfl; exact List.lt_irrefl _ h)
/-- How two texts stand, in the walk's words. -/
theorem three_ways (p n : List UInt8) : (cmpS p n = -1 ∧ p < n ∧ Op.bytesLess p n = true ∧ Op.bytesLess n p = false ∧ (p == n) = false) ∨ (cmpS p n = 0 ∧ p = n ∧ Op.bytesLess p n = false ∧ Op.bytesLess n p = false ∧ (p == n) = true) ∨ (cmpS p n = 1 ∧ n < p ∧ Op.bytesLess p n = false ∧ Op.bytesLess n p = true ∧ (p == n) = false) := by
  rcases lt_or_eq_or_gt p n with h | h | h
  · exact .inl ⟨cmpS_lt h, h, less_true h, less_false (not_lt_of h), (beq_of_lt h).1⟩
  · subst h; exact .inr (.inl ⟨cmpS_eq _, rfl, less_false (List.lt_irrefl _), less_false (List.lt_irrefl _), by simp⟩)
  · exact .inr (.inr ⟨cmpS_gt h, h, less_false (not_lt_of h), less_true h, (beq_of_lt h).2⟩)

theorem isnan_walk (p : List UInt8) (w : World) : Calls Try.prog 97 #[S p] w fun e w' => e = .returned (.bool false) ∧ w' = w := by
  have hpp : (p == p) = true := by simp
  go_enter Try.func97, Try.ntmps97
  go_wp2
  go_ret
  exact ⟨rfl, rfl⟩

set_option maxHeartbeats 400000 in
theorem compare_walk (p n : List UInt8) (w : World) : Calls Try.prog 75 #[S p, S n] w fun e w' => e = .returned (.int .i64 (cmpS p n)) ∧ w' = w := by
  rcases three_ways p n with ⟨h1, _, h2, h3, h4⟩ | ⟨h1, rfl, h2, h3, h4⟩ | ⟨h1, _, h2, h3, h4⟩
  all_goals
    have H1 := Lib.hid h1
    rw [H1.out]
    clear h1
    go_enter Try.func75, Try.ntmps75
    go_wp2_with (go_at_call 97; refine (isnan_walk _ _).mono ?_; rintro e w1 ⟨rfl, rfl⟩)
    go_ret
    exact ⟨rfl, rfl⟩

/-- In a rising row: how many stand ahead of n; whether n is one of them. -/
def posL (ks : List (List UInt8)) (n : List UInt8) : Nat := (ks.takeWhile (fun k => decide (k < n))).length
theorem posL_at {ks : List (List UInt8)} {n : List UInt8} {i : Nat} (hi : i ≤ ks.length) (h1 : ∀ y ∈ ks.take i, y < n) (h2 : ∀ h : i < ks.length, ¬ ks[i] < n) : posL ks n = i := by
  unfold posL
  have e : ks.takeWhile (fun k => decide (k < n)) = ks.take i ++ (ks.drop i).takeWhile (fun k => decide (k < n)) := by
    conv => lhs; rw [← List.take_append_drop i ks]
    rw [List.takeWhile_append_of_pos (by intro y hy; simpa using h1 y hy)]
  rw [e, List.length_append, List.length_take, Nat.min_eq_left hi]
  by_cases h : i < ks.length
  · rw [List.drop_eq_getElem_cons h, List.takeWhile_cons_of_neg (by simpa using h2 h)]; simp
  · rw [List.drop_eq_nil_of_le (by omega)]; simp
theorem posL_le (ks : List (List UInt8)) (n : List UInt8) : posL ks n ≤ ks.length := by
  unfold posL; exact (List.takeWhile_sublist _).length_le
def upS (ks : List (List UInt8)) : Prop := ks.Pairwise (· < ·)
theorem up_before {ks : List (List UInt8)} {n : List UInt8} {h : Nat} (hu : upS ks) (hh : h < ks.length) (hl : ks[h] < n) : ∀ y ∈ ks.take (h + 1), y < n := by
  intro y hy
  rw [List.take_succ_eq_append_getElem hh, List.mem_append] at hy
  rcases hy with hy | hy
  · obtain ⟨j, hj, rfl⟩ := List.mem_iff_getElem.1 hy
    rw [List.length_take] at hj
    rw [List.getElem_take]
    exact List.lt_trans (List.pairwise_iff_getElem.1 hu j h (by omega) hh (by omega)) hl
  · simp at hy; rw [hy]; exact hl
theorem up_behind {ks : List (List UInt8)} {n : List UInt8} {h : Nat} (hu : upS ks) (hh : h < ks.length) (hl : ¬ ks[h] < n) : ∀ y ∈ ks.drop h, ¬ y < n := by
  intro y hy hlt
  obtain ⟨j, hj, rfl⟩ := List.mem_iff_getElem.1 hy
  rw [List.length_drop] at hj
  rw [List.getElem_drop] at hlt
  rcases Nat.eq_zero_or_pos j with rfl | hp
  · exact hl (by simpa using hlt)
  · exact hl (List.lt_trans (List.pairwise_iff_getElem.1 hu h (h + j) hh (by omega) (by omega)) hlt)
theorem mem_at_pos {ks : List (List UInt8)} {n : List UInt8} (hu : upS ks) : n ∈ ks ↔ ks[posL ks n]? = some n := by
  constructor
  · intro h
    obtain ⟨j, hj, rfl⟩ := List.mem_iff_getElem.1 h
    have : posL ks ks[j] = j := by
      refine posL_at (by omega) ?_ (fun _ => List.lt_irrefl _)
      intro y hy
      obtain ⟨i, hi, rfl⟩ := List.mem_iff_getElem.1 hy
      rw [List.length_take] at hi
      rw [List.getElem_take]
      exact List.pairwise_iff_getElem.1 hu i j (by omega) hj (by omega)
    rw [this]; simp
  · intro h; exact List.mem_of_getElem? h
theorem mem_at {ks : List (List UInt8)} {n : List UInt8} (hu : upS ks) {i : Nat} (hp : posL ks n = i) (hi : i < ks.length) : decide (n ∈ ks) = (cmpS ks[i] n == 0) := by
  have hm := mem_at_pos (n := n) hu
  rw [hp] at hm
  rw [List.getElem?_eq_getElem hi, Option.some.injEq] at hm
  rcases three_ways ks[i] n with ⟨h, h1, _⟩ | ⟨h, h1, _⟩ | ⟨h, h1, _⟩
  · rw [h]; simp [hm]; rintro h2; rw [h2] at h1; exact List.lt_irrefl _ h1
  · rw [h]; simp [hm, h1]
  · rw [h]; simp [hm]; rintro h2; rw [h2] at h1; exact List.lt_irrefl _ h1
theorem mem_end {ks : List (List UInt8)} {n : List UInt8} (hu : upS ks) (hp : posL ks n = ks.length) : decide (n ∈ ks) = false := by
  have hm := mem_at_pos (n := n) hu
  rw [hp] at hm
  simp at hm
  simpa using hm
theorem half {i j : Nat} (h : i < j) : i ≤ (i + j) / 2 ∧ (i + j) / 2 < j := by omega
end Go.Proofs.Ythjoaoakadaieaa
