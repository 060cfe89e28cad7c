/- Chapter 10's example. -/
import Derived.Test.YtnegnjagiejncaaDoorFew10
import Derived.Test.YtnegnjagiejncaaDoorPPut10
import Derived.Test.YtnegnjagiejncaaDoorPDrop10
import Derived.Test.YtnegnjagiejncaaDoorPNames10
namespace Go.Proofs.YtnegnjagiejncaaDoor
open Go.RowKit

abbrev exA : Itm := ([97], true, false, [])
abbrev exB : Itm := ([97, 47, 98], false, false, [120])
theorem ex_put1 : putT [] exA = ([exA], 0) := (putT_ok (by rw [wrongT_by rfl rfl]; decide)).trans (by rw [show withT [] exA = [exA] by decide])
theorem ex_put2 : putT [exA] exB = ([exA, exB], 0) := (putT_ok (by rw [wrongT_by rfl rfl]; decide)).trans (by rw [show withT [exA] exB = [exA, exB] by decide])
theorem ex_up1 : upT ([exA].map (·.1)) := by unfold upT; simp
theorem ex_up2 : upT ([exA, exB].map (·.1)) := by unfold upT; simp; decide

set_option maxHeartbeats 2000000 in
set_option maxRecDepth 100000 in
theorem awake10_walk (w : World) (hM : Mx w) :
    Calls Tryd.prog 17 #[] w fun e w' => e = .returned (.bool true) ∧ Below w.heap.size w w' := by
  have C1 := pput10_walk (.slice none 0 0) [] exA w (Row.nil _ _) (by decide) (by unfold upT; simp) (by decide) hM (by simp) (by decide) (by decide)
  rw [ex_put1] at C1
  go_enter Tryd.func17, Tryd.ntmps17
  go_wp2_with fail
  refine C1.mono ?_
  rintro e w1 ⟨v1, rfl, hr1, hb1⟩
  have hM1 := hM.below hb1
  have C2 := pput10_walk v1 [exA] exB w1 hr1 (by decide) ex_up1 (by decide) hM1 (by simp) (by decide) (by decide)
  rw [ex_put2] at C2
  clear C1
  go_wp2_with fail
  refine C2.mono ?_
  rintro e w2 ⟨v2, rfl, hr2, hb2⟩
  have hB2 := below_chain hb1 hb2 hb1.size
  have hM2 := hM1.below hb2
  have C3 := pdrop10_walk v2 [exA, exB] [97] w2 hr2 (by decide) ex_up2 hM2 (by decide) (by simp)
  rw [show dropT [exA, exB] [97] = ([], 0) by decide] at C3
  clear C2 hb1 hb2 hr1
  go_wp2_with fail
  refine C3.mono ?_
  rintro e w3 ⟨v3, rfl, hr3, hb3⟩
  have hB3 := below_chain hB2 hb3 hB2.size
  have hr4 := hr2.below hb3
  have hM3 := hM2.below hb3
  obtain ⟨a3, c3, rfl, -, -, -⟩ := hr3
  have C4 := pnames10_walk v2 [exA, exB] [97] w3 hr4 (by decide) hM3 (by simp) (by simp; decide)
  rw [show namesT [exA, exB] [97] = [[98]] by decide] at C4
  clear C3 hb3 hr2
  go_wp2_with fail
  refine C4.mono ?_
  rintro e w4 ⟨v4, rfl, hr5, hb4⟩
  have hB4 := below_chain hB3 hb4 hB3.size
  have hr6 := hr4.below hb4
  have hb5 : Below w4.heap.size w4 (w4.alloc (.cells #[S [98]] 9)) := (Below.refl _ _).alloc (Nat.le_refl _) _
  have C5 := same10_walk v4 (.slice (some ⟨w4.heap.size, 0, none⟩) 1 1) [[98]] [[98]] (w4.alloc (.cells #[S [98]] 9)) (hr5.below hb5) (row_lit w4 9 [[98]] (by decide)) (by decide) (by decide)
  rw [show ([[98]] == ([[98]] : List (List UInt8))) = true from rfl] at C5
  have hB5 := below_chain hB4 hb5 hB4.size
  have hr7 := hr6.below hb5
  clear C4 hr4 hr5 hr6
  go_wp2_with fail
  refine C5.mono ?_
  rintro e w6 ⟨rfl, hb6⟩
  have hB6 := below_chain hB5 hb6 hB5.size
  have C7 := pSize10_walk v2 [exA, exB] w6 (hr7.below hb6) (by decide) (by decide)
  rw [show (sizeT [exA, exB] : Int) = 1 by decide] at C7
  clear C5 hr7 hb6 hb5 hb4
  go_wp2_with fail
  refine C7.mono ?_
  rintro e w7 ⟨rfl, hb7⟩
  go_wp2
  go_ret
  exact ⟨rfl, below_chain hB6 hb7 hB6.size⟩
end Go.Proofs.YtnegnjagiejncaaDoor
