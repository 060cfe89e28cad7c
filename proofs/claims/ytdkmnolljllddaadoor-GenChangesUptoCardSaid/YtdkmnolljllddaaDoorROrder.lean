/- The reference's Order. -/
import Derived.Test.YtdkmnolljllddaaDoorRParts
import Derived.Sort.Walk0
namespace Go.Proofs.YtdkmnolljllddaaDoor
open Go.RowKit

set_option maxHeartbeats 1100000 in
set_option maxRecDepth 100000 in
theorem rorder_walk (l m : List UInt8) (w : World) (hl : l.length ≤ 1100000) (hm : m.length ≤ 1100000) :
    Calls Tryd.prog 31 #[S l, S m] w fun e w' => e = .returned (.int .i64 (cmpParts (partsL l) (partsL m))) ∧ Below w.heap.size w w' := by
  have C := rparts_walk l w hl
  have C' := fun w1 => rparts_walk m w1 hm
  have hcl := partsL_count l
  have hcm := partsL_count m
  generalize partsL l = xs at C hcl ⊢
  generalize partsL m = ys at C' hcm ⊢
  go_enter Tryd.func31, Tryd.ntmps31
  go_wp2_with fail
  refine C.mono ?_
  rintro e w1 ⟨v, rfl, hrx, hb⟩
  go_wp2_with fail
  refine (C' _).mono ?_
  rintro e w2 ⟨v2, rfl, ⟨a2, c2, rfl, hc2, hm2, hy⟩, hb2⟩
  obtain ⟨a, c, rfl, hc, hm1, hx⟩ := hrx.below hb2
  have HB := Lib.hid (below_chain hb hb2 hb.size)
  have HX := Lib.hid hx
  have HY := Lib.hid hy
  clear hx hy hb hb2 hrx C C'
  go_wp2
  go_loopw [7] (fun i wr => ∃ k : Nat, k ≤ xs.length ∧ k ≤ ys.length ∧ i = .int .i64 k ∧ Below w2.heap.size w2 wr ∧ cmpParts xs ys = cmpParts (xs.drop k) (ys.drop k)) (fun i _ => xs.length - (intOf i).toNat)
  case atStart => exact ⟨0, Nat.zero_le _, Nat.zero_le _, rfl, Below.refl _ _, rfl⟩
  case round =>
    obtain ⟨k, hk, hk', rfl, hbr, hcmp⟩ := hrel
    have HC := Lib.hid hcmp
    have HBR := Lib.hid hbr
    have HBB := Lib.hid (below_chain HB.out hbr HB.out.size)
    clear hcmp
    by_cases h1 : k < xs.length
    · by_cases h2 : k < ys.length
      · have hx := HX.out
        rcases hx with hx | ⟨b, o, rfl, hx⟩
        · exfalso; rw [hx] at h1; simp at h1
        have hy := HY.out
        rcases hy with hy | ⟨b2, o2, rfl, hy⟩
        · exfalso; rw [hy] at h2; simp at h2
        have hcx := cell_below hbr (hx k xs[k] (by simp [h1]))
        have hcy := cell_below hbr (hy k ys[k] (by simp [h2]))
        have HST := Lib.hid (cmpParts_step h1 h2)
        clear hx hy hbr
        generalize xs[k] = p at *
        generalize ys[k] = q at *
        have h1' : (k : Int) < (xs.length : Int) := by omega
        have h2' : (k : Int) < (ys.length : Int) := by omega
        rcases lt_or_eq_or_gt p q with hpq | hpq | hpq
        · have HE := Lib.hid hpq
          have hbl : Op.bytesLess p q = true := by rw [bytesLess_eq]; simpa using hpq
          clear hpq
          go_wp2
          go_quiet (fail)
          go_wp2
          go_ret
          exact ⟨ret_int (by rw [HC.out, HST.out, if_pos HE.out]), belowN HBB.out _⟩
        · subst hpq
          have hbl : Op.bytesLess p p = false := by rw [bytesLess_eq]; simp
          go_wp2
          go_quiet (fail)
          go_wp2
          go_quiet (fail)
          go_wp2
          go_roundw
          case rel => exact ⟨k + 1, by omega, by omega, by go_num, belowN HBR.out _, by rw [HC.out, HST.out, if_neg (List.lt_irrefl p), if_neg (List.lt_irrefl p)]⟩
          case measure => simp [intOf]; omega
        · have HE := Lib.hid hpq
          have hbl : Op.bytesLess p q = false := by rw [bytesLess_eq]; simpa using List.le_of_lt hpq
          have hne : (p == q) = false := by rw [beq_eq_false_iff_ne]; intro e; rw [e] at hpq; exact List.lt_irrefl q hpq
          have HLE := Lib.hid (show ¬ p < q from List.not_lt.2 (List.le_of_lt hpq))
          clear hpq
          go_wp2
          go_quiet (fail)
          go_wp2
          go_quiet (fail)
          go_wp2
          go_ret
          exact ⟨ret_int (by rw [HC.out, HST.out, if_neg HLE.out, if_pos HE.out]), belowN (belowN HBB.out _) _⟩
      · have hke : k = ys.length := by omega
        have hl : (ys.length : Int) < (xs.length : Int) := by omega
        have h1' : (k : Int) < (xs.length : Int) := by omega
        have h2' : ¬ (k : Int) < (ys.length : Int) := by omega
        have HK := Lib.hid hke
        clear hke hbr
        go_wp2
        go_ret
        exact ⟨ret_int (by rw [HC.out, cmpParts_long h1 (Nat.le_of_eq HK.out.symm)]), HBB.out⟩
    · have hke : k = xs.length := by omega
      have h1' : ¬ (k : Int) < (xs.length : Int) := by omega
      have HK := Lib.hid hke
      clear hbr
      by_cases h2 : k < ys.length
      · have hl : (xs.length : Int) < (ys.length : Int) := by omega
        clear hke
        go_wp2
        go_ret
        exact ⟨ret_int (by rw [HC.out, cmpParts_short h2 (Nat.le_of_eq HK.out.symm)]), HBB.out⟩
      · have hl : (xs.length : Int) = (ys.length : Int) := by omega
        have hl1 : ¬ (xs.length : Int) < (ys.length : Int) := by omega
        have hl2 : ¬ (ys.length : Int) < (xs.length : Int) := by omega
        clear hl hke
        go_wp2
        go_ret
        exact ⟨ret_int (by rw [HC.out, cmpParts_even (Nat.le_of_eq HK.out.symm) (by omega)]), HBB.out⟩
end Go.Proofs.YtdkmnolljllddaaDoor
