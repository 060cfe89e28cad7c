/- Chapter 30's example; the laws of trees, texts, numbers by a seed: the walks. -/
import Derived.Test.YtdkmnolljllddaaDoorJGenL
import Derived.Test.YtdkmnolljllddaaDoorPTree30
import Derived.Test.YtdkmnolljllddaaDoorRTree30
import Derived.Test.YtdkmnolljllddaaDoorR10
import Derived.Test.YtdkmnolljllddaaDoorR10b
import Derived.Test.YtdkmnolljllddaaDoorR10c
namespace Go.Proofs.YtdkmnolljllddaaDoor
open Go.RowKit

set_option maxHeartbeats 1100000 in
set_option maxRecDepth 100000 in
theorem awake30_walk (w : World) (hM : Mx w) (hT : SpTab w) :
    Calls Tryd.prog 18 #[] w fun e w' => e = .returned (.bool true) ∧ Below w.heap.size w w' := by
  have C1 := ptree_walk 1 w (by omega) (by omega) hM hT
  have hl := treeG_len 1
  have hd := treeG_d 1
  generalize treeG 1 = l at *
  go_enter Tryd.func18, Tryd.ntmps18
  go_wp2_with fail
  refine C1.mono ?_
  rintro e w1 ⟨v1, rfl, hr1, hb1⟩
  have C2 := r10find_walk v1 l [100] w1 hr1 (by omega)
  unfold findV at C2
  rw [hd] at C2
  clear C1 hd
  go_wp2_with fail
  refine C2.mono ?_
  rintro e w2 ⟨rfl, hb2⟩
  have hB2 := below_chain hb1 hb2 hb1.size
  clear C2 hr1
  have C3 := fun w => ptext_walk 1 0 w
  rw [show textG 1 0 = [] from rfl] at C3
  have hb3 : Below w2.heap.size w2 (w2.alloc (.cells #[S [100], .bool true, .bool false, S []] 32)) := (Below.refl _ _).alloc (Nat.le_refl _) _
  have hB3 := below_chain hB2 hb3 hB2.size
  go_wp2_with fail
  refine (C3 _).mono ?_
  rintro e w4 ⟨rfl, hb4⟩
  go_wp2
  go_ret
  exact ⟨rfl, below_chain hB3 hb4 hB3.size⟩

set_option maxHeartbeats 2000000 in
set_option maxRecDepth 100000 in
theorem gtells_walk (s k : Int) (w : World) (hM : Mx w) (hT : SpTab w) (hs0 : 0 ≤ s) (hs1 : s < 18446744073709551616) (hk0 : -9223372036854775808 ≤ k) (hk1 : k < 9223372036854775808) :
    Calls Tryd.prog 5 #[.int .u64 s, .int .i64 k] w fun e w' => e = .returned (.bool true) ∧ Below w.heap.size w w' := by
  have HM := Lib.hid hM
  have HT := Lib.hid hT
  clear hM hT
  have CN1 := fun w => pnumber_walk s k w
  have CN2 := fun w => rnumber_walk s k w
  generalize numberG s k = nb at *
  have CT1 := fun w => ptree_walk s w hs0 hs1
  have CT2 := fun w => rtree_walk s w hs0 hs1
  have hl := treeG_len s
  generalize treeG s = l at *
  obtain ⟨n, hn⟩ : ∃ n : Int, n = if 300 < k then k.tmod 300 else k := ⟨_, rfl⟩
  have C1 := fun w => ptext_walk s n w
  have C2 := fun w => rtext_walk s n w
  have C3 := fun w => pchoices_walk s n w
  have C4 := fun w => rchoices_walk s n w
  generalize textG s n = tx at *
  generalize choiceG s n = ch at *
  go_enter Tryd.func5, Tryd.ntmps5
  go_upto_if 8 with fail
  go_cut [5] from 11 (fun v w1 => v = .int .i64 n ∧ w1 = w)
  case first =>
    by_cases h : (300 : Int) < k
    · rw [if_pos h] at hn
      go_wp2
      go_meet
      case rel => exact ⟨by first | rfl | (rw [hn]; rfl) | (rw [hn, Int.tmod_eq_emod_of_nonneg (by omega)]), by first | rfl | trivial⟩
    · rw [if_neg h] at hn
      go_wp2
      go_meet
      case rel => exact ⟨by first | rfl | (rw [hn]; done), by first | rfl | trivial⟩
  case rest =>
  obtain ⟨rfl, rfl⟩ := hcut
  clear hn
  rename_i w
  go_wp2_with fail
  refine (CN1 _).mono ?_
  rintro e w1 ⟨rfl, hb1⟩
  clear CN1
  go_wp2_with fail
  refine (CN2 _).mono ?_
  rintro e w2 ⟨rfl, hb2⟩
  clear CN2
  have hB := below_chain hb1 hb2 hb1.size
  clear hb1 hb2
  have e1 : (nb == nb) = true := by simp
  go_wp2_with fail
  refine (C1 _).mono ?_
  rintro e w3 ⟨rfl, hb⟩
  replace hB := below_chain hB hb hB.size
  clear C1 hb
  go_wp2_with fail
  refine (C2 _).mono ?_
  rintro e w4 ⟨rfl, hb⟩
  replace hB := below_chain hB hb hB.size
  clear C2 hb
  have e2 : (tx == tx) = true := by simp
  go_wp2_with fail
  refine (C3 _).mono ?_
  rintro e w5 ⟨rfl, hb⟩
  replace hB := below_chain hB hb hB.size
  clear C3 hb
  go_wp2_with fail
  refine (C4 _).mono ?_
  rintro e w6 ⟨rfl, hb⟩
  replace hB := below_chain hB hb hB.size
  clear C4 hb
  have e3 : (ch == ch) = true := by simp
  go_wp2_with fail
  refine (CT1 _ (HM.out.below hB) (HT.out.below hB)).mono ?_
  rintro e w7 ⟨v1, rfl, hr1, hb⟩
  replace hB := below_chain hB hb hB.size
  clear CT1 hb
  go_wp2_with fail
  refine (CT2 _).mono ?_
  rintro e w8 ⟨v2, rfl, hr2, hb⟩
  replace hB := below_chain hB hb hB.size
  have CS := r10same_walk v1 v2 l l w8 (hr1.below hb) hr2 (by omega) (by omega)
  rw [decide_eq_true rfl] at CS
  clear CT2 hb hr1 hr2
  go_wp2_with fail
  refine CS.mono ?_
  rintro e w9 ⟨rfl, hb⟩
  replace hB := below_chain hB hb hB.size
  clear CS hb
  go_wp2_with (go_at_call 18; refine (awake30_walk _ (HM.out.below hB) (HT.out.below hB)).mono ?_; rintro e w10 ⟨rfl, hb10⟩)
  go_ret
  exact ⟨rfl, below_chain hB hb10 hB.size⟩
end Go.Proofs.YtdkmnolljllddaaDoor
