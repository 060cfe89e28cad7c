/- cmp.Compare at texts. -/
import Derived.Test.YtffdcnhpjgpcdaaGreatDoorJKey
namespace Go.Proofs.YtffdcnhpjgpcdaaGreatDoor
open Go.RowKit

theorem isnan_walk (p : List UInt8) (w : World) : Calls Tryz.prog 34 #[S p] w fun e w' => e = .returned (.bool false) ∧ w' = w := by
  have hpp : (p == p) = true := by simp
  go_enter Tryz.func34, Tryz.ntmps34
  go_wp2
  go_ret
  exact ⟨rfl, rfl⟩

set_option maxHeartbeats 400000 in
theorem compare_walk (p n : List UInt8) (w : World) : Calls Tryz.prog 23 #[S p, S n] w fun e w' => e = .returned (.int .i64 (cmpS p n)) ∧ w' = w := by
  rcases three_ways p n with ⟨h1, _, h2, h3, h4⟩ | ⟨h1, rfl, h2, h3, h4⟩ | ⟨h1, _, h2, h3, h4⟩
  all_goals
    have H1 := Lib.hid h1
    rw [H1.out]
    clear h1
    go_enter Tryz.func23, Tryz.ntmps23
    go_wp2_with (go_at_call 34; refine (isnan_walk _ _).mono ?_; rintro e w1 ⟨rfl, rfl⟩)
    go_ret
    exact ⟨rfl, rfl⟩

end Go.Proofs.YtffdcnhpjgpcdaaGreatDoor
