/- Chapter 9's statements: same, awake. -/
import Derived.Test.YtdenbjjpchmoaaaDoorRSplit
import Derived.Test.YtdenbjjpchmoaaaDoorRJoin
import Derived.Test.YtdenbjjpchmoaaaDoorROrder
import Derived.Test.YtdenbjjpchmoaaaDoorSplit
import Derived.Test.YtdenbjjpchmoaaaDoorDir
import Derived.Test.YtdenbjjpchmoaaaDoorOrder
namespace Go.Proofs.YtdenbjjpchmoaaaDoor
open Go.RowKit

theorem ne_at {xs ys : List (List UInt8)} (hl : xs.length = ys.length) {k : Nat} (h1 : k < xs.length) (h2 : k < ys.length) (h : xs[k] ≠ ys[k]) : (xs == ys) = false := by
  rw [beq_eq_false_iff_ne]
  rintro rfl
  exact h rfl
theorem eq_take {xs ys : List (List UInt8)} (hl : xs.length = ys.length) (h : xs.take xs.length = ys.take xs.length) : (xs == ys) = true := by
  rw [beq_iff_eq]
  rw [List.take_of_length_le (Nat.le_refl _), List.take_of_length_le (by omega)] at h
  exact h

set_option maxHeartbeats 1000000 in
set_option maxRecDepth 100000 in
theorem same_walk (v v2 : Value) (xs ys : List (List UInt8)) (w : World) (hx : StrRow w v xs) (hy : StrRow w v2 ys) (hcl : xs.length ≤ 1000001) (hcm : ys.length ≤ 1000001) :
    Calls Tryd.prog 13 #[v, v2] w fun e w' => e = .returned (.bool (xs == ys)) ∧ Below w.heap.size w w' := by
  obtain ⟨a, c, rfl, hc, hm1, hx⟩ := hx
  obtain ⟨a2, c2, rfl, hc2, hm2, hy⟩ := hy
  have HX := Lib.hid hx
  have HY := Lib.hid hy
  clear hx hy
  by_cases hl : xs.length = ys.length
  · have HL := Lib.hid hl
    have hne : ((xs.length : Int) != (ys.length : Int)) = false := by rw [bne_eq_false_iff_eq]; omega
    have hle1 : xs.length ≤ ys.length := by omega
    have hle2 : ys.length ≤ xs.length := by omega
    clear hl
    go_enter Tryd.func13, Tryd.ntmps13
    go_wp2
    go_loopw [5, 13] (fun _ i wr => ∃ k : Nat, k ≤ xs.length ∧ i = .int .i64 k ∧ xs.take k = ys.take k ∧ Below w.heap.size w wr) (fun _ i _ => xs.length - (intOf i).toNat)
    case atStart => exact ⟨0, Nat.zero_le _, rfl, rfl, Below.refl _ _⟩
    case round =>
      obtain ⟨k, hk, rfl, ht, hB⟩ := hrel
      have HT := Lib.hid ht
      have HB := Lib.hid hB
      clear ht
      by_cases h1 : k < xs.length
      · have h2 : k < ys.length := by omega
        have hx := HX.out
        rcases hx with hx | ⟨b, o, rfl, hx⟩
        · exfalso; rw [hx] at h1; simp at h1
        have hcx := cell_below hB (hx k xs[k] (by simp [h1]))
        have hy := HY.out
        rcases hy with hy | ⟨b2, o2, rfl, hy⟩
        · exfalso; rw [hy] at h2; simp at h2
        have hcy := cell_below hB (hy k ys[k] (by simp [h2]))
        have HNE := Lib.hid (fun h => ne_at HL.out h1 h2 h)
        have HST := Lib.hid (fun h : xs[k] = ys[k] => (show xs.take (k + 1) = ys.take (k + 1) by rw [List.take_succ_eq_append_getElem h1, List.take_succ_eq_append_getElem h2, HT.out, h]))
        clear hx hy hB
        generalize xs[k] = p at *
        generalize ys[k] = q at *
        have h1' : (k : Int) < (xs.length : Int) := by omega
        have h2' : (k : Int) < (ys.length : Int) := by omega
        by_cases hpq : p = q
        · subst hpq
          have HS := Lib.hid (HST.out rfl)
          have hpp : (p == p) = true := by simp
          go_wp2
          go_quiet (fail)
          go_wp2
          go_roundw
          case rel => exact ⟨k + 1, by omega, by go_num, HS.out, belowN HB.out _⟩
          case measure => simp [intOf]; omega
        · have HS := Lib.hid (HNE.out hpq)
          have hpp : (p == q) = false := by rw [beq_eq_false_iff_ne]; exact hpq
          clear hpq
          go_wp2
          go_quiet (fail)
          go_wp2
          go_ret
          exact ⟨ret_bool HS.out.symm, belowN HB.out _⟩
      · have h1' : ¬ (k : Int) < (xs.length : Int) := by omega
        have HK := Lib.hid (show k = xs.length by omega)
        go_wp2
        go_ret
        exact ⟨ret_bool (eq_take HL.out (by rw [← HK.out]; exact HT.out)).symm, HB.out⟩
  · have hne : ((xs.length : Int) != (ys.length : Int)) = true := by rw [bne_iff_ne]; omega
    have HE := Lib.hid (show (xs == ys) = false by rw [beq_eq_false_iff_ne]; rintro rfl; exact hl rfl)
    clear hl
    go_enter Tryd.func13, Tryd.ntmps13
    go_wp2
    go_ret
    exact ⟨ret_bool HE.out.symm, Below.refl _ _⟩

set_option maxHeartbeats 1000000 in
set_option maxRecDepth 100000 in
theorem awake_walk (w : World) (hm : Mx w) :
    Calls Tryd.prog 8 #[] w fun e w' => e = .returned (.bool true) ∧ Below w.heap.size w w' := by
  go_enter Tryd.func8, Tryd.ntmps8
  go_wp2_with fail
  refine (split_walk [97, 47, 98] w hm (by decide)).mono ?_
  rintro e w1 ⟨v, rfl, hr, _, hb⟩
  go_wp2_with fail
  have e1 : splitL [97, 47, 98] = [[97], [98]] := by decide
  rw [e1] at hr
  clear e1
  have ha1 : Below w1.heap.size w1 (w1.alloc (.cells #[S [97], S [98]] 9)) := (Below.refl _ _).alloc (Nat.le_refl _) _
  refine (same_walk v _ [[97], [98]] [[97], [98]] _ (hr.below ha1) (row_lit w1 9 [[97], [98]] (by decide)) (by decide) (by decide)).mono ?_
  rintro e w2 ⟨rfl, hb2⟩
  have hB2 : Below w.heap.size w w2 := (below_chain hb ha1 hb.size).trans (hb2.mono (by have := hb.size; simp; omega))
  have HB2 := Lib.hid hB2
  have hm2 := hm.below hB2
  clear hb ha1 hb2 hr hm hB2
  rw [show ([[97], [98]] == ([[97], [98]] : List (List UInt8))) = true from rfl]
  go_wp2_with fail
  refine (dir_walk [97, 47, 98] w2 hm2 (by decide)).mono ?_
  rintro e w3 ⟨rfl, hb3⟩
  have HB3 := Lib.hid (below_chain HB2.out hb3 HB2.out.size)
  have hm3 := hm2.below hb3
  clear hb3 hm2
  rw [show dirL [97, 47, 98] = [97] by decide]
  go_wp2_with fail
  refine (dir_walk [97] w3 hm3 (by decide)).mono ?_
  rintro e w4 ⟨rfl, hb4⟩
  have HB4 := Lib.hid (below_chain HB3.out hb4 HB3.out.size)
  have hm4 := hm3.below hb4
  clear hb4 hm3
  rw [show dirL [97] = [] by decide]
  go_wp2_with fail
  refine (order_walk [97, 47, 122] [97, 45, 98] w4 hm4 (by decide) (by decide)).mono ?_
  rintro e w5 ⟨rfl, hb5⟩
  have HB5 := Lib.hid (below_chain HB4.out hb5 HB4.out.size)
  have hm5 := hm4.below hb5
  clear hb5 hm4
  rw [show orderL [97, 47, 122] [97, 45, 98] = -1 by decide]
  go_wp2_with fail
  refine (fit_walk [97, 47, 47, 98] w5 hm5 (by decide)).mono ?_
  rintro e w6 ⟨rfl, hb6⟩
  have HB6 := Lib.hid (below_chain HB5.out hb6 HB5.out.size)
  clear hb6 hm5
  rw [show fitB [97, 47, 47, 98] = false by decide]
  go_wp2
  go_ret
  exact ⟨rfl, HB6.out⟩

set_option maxHeartbeats 2000000 in
set_option maxRecDepth 100000 in
theorem tells_walk (l m : List UInt8) (w : World) (hM : Mx w) :
    Calls Tryd.prog 3 #[S l, S m] w fun e w' => e = .returned (.bool true) ∧ Below w.heap.size w w' := by
  by_cases h1 : (1000 : Int) < (l.length : Int)
  · go_enter Tryd.func3, Tryd.ntmps3
    go_wp2_with (go_at_call 8; refine (awake_walk w hM).mono ?_; rintro e w1 ⟨rfl, hb⟩)
    go_ret
    exact ⟨rfl, hb⟩
  by_cases h2 : (1000 : Int) < (m.length : Int)
  · go_enter Tryd.func3, Tryd.ntmps3
    go_wp2_with (go_at_call 8; refine (awake_walk w hM).mono ?_; rintro e w1 ⟨rfl, hb⟩)
    go_ret
    exact ⟨rfl, hb⟩
  have hl : l.length ≤ 1000000 := by omega
  have hm : m.length ≤ 1000000 := by omega
  have hle := splitL_le l
  go_enter Tryd.func3, Tryd.ntmps3
  go_wp2_with fail
  refine (name_walk l w hl).mono ?_
  rintro e w1 ⟨rfl, hb⟩
  have HB1 := Lib.hid hb
  have hM1 := hM.below hb
  clear hb hM
  go_wp2_with fail
  refine (rname_walk l w1 hl).mono ?_
  rintro e w1' ⟨rfl, rfl⟩
  generalize nameB l = nb
  have hnb : (nb == nb) = true := by simp
  go_wp2_with fail
  refine (fit_walk l w1 hM1 hl).mono ?_
  rintro e w2 ⟨rfl, hb⟩
  have HB2 := Lib.hid (below_chain HB1.out hb HB1.out.size)
  have hM2 := hM1.below hb
  clear hb hM1
  go_wp2_with fail
  refine (rfit_walk l w2 hl).mono ?_
  rintro e w3 ⟨rfl, hb⟩
  have HB3 := Lib.hid (below_chain HB2.out hb HB2.out.size)
  have hM3 := hM2.below hb
  clear hb hM2
  generalize fitB l = fb
  have hfb : (fb == fb) = true := by simp
  go_wp2_with fail
  refine (split_walk l w3 hM3 hl).mono ?_
  rintro e w4 ⟨v, rfl, hr, _, hb⟩
  have HB4 := Lib.hid (below_chain HB3.out hb HB3.out.size)
  have hM4 := hM3.below hb
  clear hb hM3
  go_wp2_with fail
  refine (rsplit_walk l w4 hl).mono ?_
  rintro e w5 ⟨v2, rfl, hr2, hb⟩
  have HB5 := Lib.hid (below_chain HB4.out hb HB4.out.size)
  have hM5 := hM4.below hb
  have hr' := hr.below hb
  clear hb hM4 hr
  generalize splitL l = sp at *
  go_wp2_with fail
  refine (same_walk v v2 sp sp w5 hr' hr2 (by omega) (by omega)).mono ?_
  rintro e w6 ⟨rfl, hb⟩
  have HB6 := Lib.hid (below_chain HB5.out hb HB5.out.size)
  have hM6 := hM5.below hb
  clear hb hM5 hr' hr2
  rw [show (sp == sp) = true by simp]
  go_wp2_with fail
  refine (dir_walk l w6 hM6 hl).mono ?_
  rintro e w7 ⟨rfl, hb⟩
  have HB7 := Lib.hid (below_chain HB6.out hb HB6.out.size)
  have hM7 := hM6.below hb
  clear hb hM6
  go_wp2_with fail
  refine (rdir_walk l w7 hl).mono ?_
  rintro e w8 ⟨rfl, hb⟩
  have HB8 := Lib.hid (below_chain HB7.out hb HB7.out.size)
  have hM8 := hM7.below hb
  clear hb hM7
  generalize dirL l = dl
  have hdl : (dl == dl) = true := by simp
  go_wp2_with fail
  refine (order_walk l m w8 hM8 hl hm).mono ?_
  rintro e w9 ⟨rfl, hb⟩
  have HB9 := Lib.hid (below_chain HB8.out hb HB8.out.size)
  have hM9 := hM8.below hb
  clear hb hM8
  go_wp2_with fail
  refine (rorder_walk l m w9 hl hm).mono ?_
  rintro e w10 ⟨rfl, hb⟩
  have HB10 := Lib.hid (below_chain HB9.out hb HB9.out.size)
  have hM10 := hM9.below hb
  clear hb hM9
  rw [show cmpParts (partsL l) (partsL m) = orderL l m from rfl]
  generalize orderL l m = ol
  have hol : (ol == ol) = true := by simp
  go_wp2_with fail
  refine (awake_walk w10 hM10).mono ?_
  rintro e w11 ⟨rfl, hb⟩
  go_wp2
  go_ret
  exact ⟨rfl, below_chain HB10.out hb HB10.out.size⟩
end Go.Proofs.YtdenbjjpchmoaaaDoor
