/- The reference's sets of keys: Has, Fit, Same. -/
import Derived.Test.YthjoaoakadaieaaDiskPlain
import Derived.Test.YthjoaoakadaieaaRowG
import Derived.Test.YthjoaoakadaieaaCmp
import Derived.Test.YthjoaoakadaieaaLater
namespace Go.Proofs.Ythjoaoakadaieaa
open Go.RowKit

/-- Keys that can be a set. -/
def fit5 (l : List (List UInt8)) : Bool := l.all (fun x => x.length == 32) && upN l
theorem str_cell {w : World} {b o : Nat} {xs : List (List UInt8)} (h : ∀ j x, xs[j]? = some x → w.cell? ⟨b, o + j, none⟩ = some (S x)) {j : Nat} (hj : j < xs.length) : w.cell? ⟨b, o + j, none⟩ = some (S xs[j]) := h j xs[j] (by simp [hj])

set_option maxHeartbeats 2000000 in
set_option maxRecDepth 100000 in
theorem rhas_walk (v : Value) (xs : List (List UInt8)) (k : List UInt8) (w : World) (hr : StrRow w v xs) (hcnt : xs.length ≤ 1000000) :
    Calls Try.prog 14 #[v, S k] w fun e w' => e = .returned (.bool (decide (k ∈ xs))) ∧ Below w.heap.size w w' := by
  obtain ⟨a, c, rfl, hc, hm, hx⟩ := hr
  have HX := Lib.hid hx
  have HT := Lib.hid (fun (h : k ∈ xs) => decide_eq_true h)
  have HF := Lib.hid (fun (h : ¬ k ∈ xs) => decide_eq_false h)
  generalize decide (k ∈ xs) = res at *
  clear hx
  go_enter Try.func14, Try.ntmps14
  go_wp2
  go_loopw [5] (fun i wr => ∃ j : Nat, j ≤ xs.length ∧ i = .int .i64 j ∧ (∀ x ∈ xs.take j, x ≠ k) ∧ Below w.heap.size w wr) (fun i _ => xs.length - (intOf i).toNat)
  case atStart => exact ⟨0, Nat.zero_le _, rfl, by simp, Below.refl _ _⟩
  case round =>
    obtain ⟨j, hj, rfl, hall, hB⟩ := hrel
    have HALL := Lib.hid hall
    clear hall
    by_cases h1 : j < xs.length
    · have h1' : (j : Int) < (xs.length : Int) := by omega
      have hx := HX.out
      rcases hx with hx | ⟨b, o, rfl, hx⟩
      · exfalso; rw [hx] at h1; simp at h1
      have hc1 := cell_below hB (str_cell hx h1)
      clear hx
      by_cases hq : xs[j] = k
      · have HR := Lib.hid (HT.out (by rw [← hq]; exact List.getElem_mem h1))
        have hq' : (xs[j] == k) = true := by rw [beq_iff_eq]; exact hq
        clear hq
        generalize xs[j] = y at *
        go_wp2
        go_ret
        exact ⟨by rw [HR.out]; rfl, hB⟩
      · have HN := Lib.hid (show ∀ x ∈ xs.take (j + 1), x ≠ k from fun x hx => by
          rw [List.take_succ_eq_append_getElem h1, List.mem_append] at hx
          rcases hx with hx | hx
          · exact HALL.out x hx
          · simp only [List.mem_singleton] at hx; rw [hx]; exact hq)
        have hq' : (xs[j] == k) = false := by rw [beq_eq_false_iff_ne]; exact hq
        clear hq
        generalize xs[j] = y at *
        go_wp2
        go_roundw
        case rel => exact ⟨j + 1, by omega, by go_num, HN.out, hB⟩
        case measure => simp [intOf]; omega
    · have h1' : ¬ (j : Int) < (xs.length : Int) := by omega
      have HR := Lib.hid (HF.out (fun h => by
        have h2 := HALL.out
        rw [List.take_of_length_le (by omega)] at h2
        exact h2 k h rfl))
      go_wp2
      go_ret
      exact ⟨by rw [HR.out]; rfl, hB⟩

theorem fit5_bad {l : List (List UInt8)} {k : Nat} (h : k < l.length) (hb : l[k].length ≠ 32) : fit5 l = false := by
  unfold fit5
  rw [Bool.and_eq_false_iff]
  left
  rw [List.all_eq_false]
  exact ⟨l[k], by simp, by simpa using hb⟩
theorem fit5_down {l : List (List UInt8)} {j : Nat} (h : j + 1 < l.length) (hb : ¬ l[j] < l[j + 1]) : fit5 l = false := by
  unfold fit5
  rw [Bool.and_eq_false_iff]
  right
  cases hu : upN l with
  | false => rfl
  | true =>
    have h1 := upN_take l (j + 2) hu
    rw [upN_step h] at h1
    simp [hb] at h1
theorem fit5_one (l : List (List UInt8)) : upN (l.take 1) = true := by
  cases l with
  | nil => rfl
  | cons a t => simp [upN]
theorem fit5_all {l : List (List UInt8)} (h : ∀ x ∈ l, x.length = 32) (hu : upN l = true) : fit5 l = true := by
  unfold fit5
  rw [Bool.and_eq_true]
  exact ⟨List.all_eq_true.2 (fun x hx => by simpa using h x hx), hu⟩
theorem all32_step {l : List (List UInt8)} {k : Nat} (h : k < l.length) (ha : ∀ x ∈ l.take k, x.length = 32) (hb : l[k].length = 32) : ∀ x ∈ l.take (k + 1), x.length = 32 := by
  intro x hx
  rw [List.take_succ_eq_append_getElem h, List.mem_append] at hx
  rcases hx with hx | hx
  · exact ha x hx
  · simp only [List.mem_singleton] at hx; rw [hx]; exact hb

set_option maxHeartbeats 4000000 in
set_option maxRecDepth 100000 in
theorem rfit5_walk (v : Value) (xs : List (List UInt8)) (w : World) (hr : StrRow w v xs) (hcnt : xs.length ≤ 1000000) :
    Calls Try.prog 35 #[v] w fun e w' => e = .returned (.bool (fit5 xs)) ∧ Below w.heap.size w w' := by
  obtain ⟨a, c, rfl, hc, hm, hx⟩ := hr
  have HX := Lib.hid hx
  have HBAD := Lib.hid (fun k h => fit5_bad (l := xs) (k := k) h)
  have HDWN := Lib.hid (fun j h => fit5_down (l := xs) (j := j) h)
  have HALLF := Lib.hid (fun h1 h2 => fit5_all (l := xs) h1 h2)
  generalize fit5 xs = res at *
  clear hx
  go_enter Try.func35, Try.ntmps35
  go_wp2
  go_loopw [3] (fun i wr => ∃ k : Nat, k ≤ xs.length ∧ i = .int .i64 k ∧ (∀ x ∈ xs.take k, x.length = 32) ∧ upN (xs.take k) = true ∧ Below w.heap.size w wr) (fun i _ => xs.length - (intOf i).toNat)
  case atStart => exact ⟨0, Nat.zero_le _, rfl, by simp, rfl, Below.refl _ _⟩
  case round =>
    obtain ⟨k, hk, rfl, ha, hu, hB⟩ := hrel
    have HA := Lib.hid ha
    have HU := Lib.hid hu
    clear ha hu
    by_cases h1 : k < xs.length
    · have h1' : (k : Int) < (xs.length : Int) := by omega
      have hx := HX.out
      rcases hx with hx | ⟨b, o, rfl, hx⟩
      · exfalso; rw [hx] at h1; simp at h1
      have hc1 := cell_below hB (str_cell hx h1)
      have HB1 := Lib.hid (HBAD.out k h1)
      have HA1 := Lib.hid (all32_step h1 HA.out)
      by_cases hz : k = 0
      · subst hz
        have HU1 := Lib.hid (fit5_one xs)
        simp only [Nat.add_zero] at hc1
        have hz0 : ((0 : Nat) : Int) = 0 := rfl
        clear hx
        generalize xs[0] = y at *
        by_cases hl : y.length = 32
        · have hl' : ((y.length : Int) != 32) = false := by rw [bne_eq_false_iff_eq]; omega
          have HS := Lib.hid (HA1.out hl)
          clear hl
          go_wp2
          go_quiet (fail)
          go_wp2
          go_roundw
          case rel => exact ⟨1, by omega, by go_num, HS.out, HU1.out, belowN hB _⟩
          case measure => simp [intOf]; omega
        · have hl' : ((y.length : Int) != 32) = true := by rw [bne_iff_ne]; omega
          have HR := Lib.hid (HB1.out hl)
          clear hl
          go_wp2
          go_quiet (fail)
          go_wp2
          go_ret
          exact ⟨by rw [HR.out]; rfl, belowN hB _⟩
      · obtain ⟨j, rfl⟩ : ∃ j, k = j + 1 := ⟨k - 1, by omega⟩
        have hj : j < xs.length := by omega
        have hc2 := cell_below hB (str_cell hx hj)
        have HD := Lib.hid (HDWN.out j h1)
        have HUS := Lib.hid (upN_step h1)
        have hwr : IntKind.i64.wrap (j : Int) = (j : Int) := by rw [IntKind.wrap_i64]; omega
        have hpos : (0 : Int) < ((j + 1 : Nat) : Int) := by omega
        have hj' : (j : Int) < (xs.length : Int) := by omega
        clear hx hz
        generalize xs[j + 1] = y at *
        generalize xs[j] = y0 at *
        by_cases hl : y.length = 32
        · have hl' : ((y.length : Int) != 32) = false := by rw [bne_eq_false_iff_eq]; omega
          have HS := Lib.hid (HA1.out hl)
          clear hl
          have hcase : (y0 < y ∧ Op.bytesLess y0 y = true) ∨ (¬ y0 < y ∧ Op.bytesLess y0 y = false) := by
            rw [bytesLess_eq]
            by_cases h : y0 < y
            · exact .inl ⟨h, by simpa using h⟩
            · exact .inr ⟨h, by simpa using h⟩
          rcases hcase with ⟨hlt, hbl⟩ | ⟨hlt, hbl⟩
          · have HU2 := Lib.hid (show upN (xs.take (j + 2)) = true by rw [HUS.out, HU.out]; simp [hlt])
            clear hlt
            go_wp2
            go_quiet (fail)
            go_wp2
            go_roundw
            case rel => exact ⟨j + 2, by omega, by go_num, HS.out, HU2.out, belowN hB _⟩
            case measure => simp [intOf]; omega
          · have HR := Lib.hid (HD.out hlt)
            clear hlt
            go_wp2
            go_quiet (fail)
            go_wp2
            go_ret
            exact ⟨by rw [HR.out]; rfl, belowN hB _⟩
        · have hl' : ((y.length : Int) != 32) = true := by rw [bne_iff_ne]; omega
          have HR := Lib.hid (HB1.out hl)
          clear hl
          go_wp2
          go_quiet (fail)
          go_wp2
          go_ret
          exact ⟨by rw [HR.out]; rfl, belowN hB _⟩
    · have h1' : ¬ (k : Int) < (xs.length : Int) := by omega
      have HR := Lib.hid (HALLF.out (by have e := HA.out; rwa [List.take_of_length_le (by omega)] at e) (by have e := HU.out; rwa [List.take_of_length_le (by omega)] at e))
      go_wp2
      go_ret
      exact ⟨by rw [HR.out]; rfl, hB⟩

set_option maxHeartbeats 2000000 in
set_option maxRecDepth 100000 in
theorem rsame5_walk (v v2 : Value) (xs ys : List (List UInt8)) (w : World) (hr : StrRow w v xs) (hr2 : StrRow w v2 ys) (hcnt : xs.length ≤ 1000000) :
    Calls Try.prog 15 #[v, v2] w fun e w' => e = .returned (.bool (decide (xs = ys))) ∧ Below w.heap.size w w' := by
  obtain ⟨a, c, rfl, hc, hm, hx⟩ := hr
  obtain ⟨a2, c2, rfl, hc2, hm2, hy⟩ := hr2
  have HX := Lib.hid hx
  have HY := Lib.hid hy
  have HT := Lib.hid (fun (h : xs = ys) => decide_eq_true h)
  have HF := Lib.hid (fun (h : ¬ xs = ys) => decide_eq_false h)
  generalize decide (xs = ys) = res at *
  clear hx hy
  by_cases hl : xs.length = ys.length
  · have HL := Lib.hid hl
    have hne : ((xs.length : Int) != (ys.length : Int)) = false := by rw [bne_eq_false_iff_eq]; omega
    have hle1 : xs.length ≤ ys.length := by omega
    clear hl
    go_enter Try.func15, Try.ntmps15
    go_wp2
    go_loopw [5] (fun i wr => ∃ k : Nat, k ≤ xs.length ∧ i = .int .i64 k ∧ xs.take k = ys.take k ∧ Below w.heap.size w wr) (fun i _ => xs.length - (intOf i).toNat)
    case atStart => exact ⟨0, Nat.zero_le _, rfl, rfl, Below.refl _ _⟩
    case round =>
      obtain ⟨k, hk, rfl, ht, hB⟩ := hrel
      have HTK := Lib.hid ht
      clear ht
      by_cases h1 : k < xs.length
      · have h2 : k < ys.length := by omega
        have h1' : (k : Int) < (xs.length : Int) := by omega
        have h2' : (k : Int) < (ys.length : Int) := by omega
        have hx := HX.out
        rcases hx with hx | ⟨b, o, rfl, hx⟩
        · exfalso; rw [hx] at h1; simp at h1
        have hy := HY.out
        rcases hy with hy | ⟨b2, o2, rfl, hy⟩
        · exfalso; rw [hy] at h2; simp at h2
        have hc1 := cell_below hB (str_cell hx h1)
        have hc2 := cell_below hB (str_cell hy h2)
        have HS := Lib.hid (fun (h : xs[k] = ys[k]) => show xs.take (k + 1) = ys.take (k + 1) by rw [List.take_succ_eq_append_getElem h1, List.take_succ_eq_append_getElem h2, HTK.out, h])
        have HD := Lib.hid (fun (h : ¬ xs[k] = ys[k]) => HF.out (fun e => h (by simp [e])))
        clear hx hy
        generalize xs[k] = p at *
        generalize ys[k] = q at *
        by_cases hpq : p = q
        · have HSS := Lib.hid (HS.out hpq)
          have hb : (p == q) = true := by rw [beq_iff_eq]; exact hpq
          have hb' : (p != q) = false := by rw [bne_eq_false_iff_eq]; exact hpq
          clear hpq
          go_wp2
          go_quiet (fail)
          go_wp2
          go_roundw
          case rel => exact ⟨k + 1, by omega, by go_num, HSS.out, belowN hB _⟩
          case measure => simp [intOf]; omega
        · have HR := Lib.hid (HD.out hpq)
          have hb : (p == q) = false := by rw [beq_eq_false_iff_ne]; exact hpq
          have hb' : (p != q) = true := by rw [bne_iff_ne]; exact hpq
          clear hpq
          go_wp2
          go_quiet (fail)
          go_wp2
          go_ret
          exact ⟨by rw [HR.out]; rfl, belowN hB _⟩
      · have h1' : ¬ (k : Int) < (xs.length : Int) := by omega
        have HR := Lib.hid (HT.out (by
          have e := HTK.out
          have e2 := HL.out
          rwa [List.take_of_length_le (by omega), List.take_of_length_le (by omega)] at e))
        go_wp2
        go_ret
        exact ⟨by rw [HR.out]; rfl, hB⟩
  · have HR := Lib.hid (HF.out (fun e => hl (congrArg List.length e)))
    have hne : ((xs.length : Int) != (ys.length : Int)) = true := by rw [bne_iff_ne]; omega
    clear hl
    go_enter Try.func15, Try.ntmps15
    go_wp2
    go_ret
    exact ⟨by rw [HR.out]; rfl, Below.refl _ _⟩
end Go.Proofs.Ythjoaoakadaieaa
