/- How an item's path stands to a path (the closure of items.at). -/
import Derived.Test.YtdkmnolljllddaaDoorOrder
import Derived.Test.YtdkmnolljllddaaDoorItB
namespace Go.Proofs.YtdkmnolljllddaaDoor
open Go.RowKit

set_option maxHeartbeats 400000 in
theorem itat_walk (x : Itm) (n : List UInt8) (hx : x.1.length ≤ 1100000) (hn : n.length ≤ 1100000) (w : World) (hM : Mx w) : Calls Tryd.prog 96 #[ItV x, S n] w fun e w' => e = .returned (.int .i64 (orderL x.1 n)) ∧ Below w.heap.size w w' := by
  obtain ⟨p, d, ex, dt⟩ := x
  have C := fun w hM => order_walk p n w hM hx hn
  simp only
  generalize orderL p n = c at *
  go_enter Tryd.func96, Tryd.ntmps96
  go_wp2_with (go_at_call 97; refine (C _ (hM.below ((Below.refl _ _).alloc (Nat.le_refl _) _))).mono ?_; rintro e w1 ⟨rfl, hb1⟩)
  go_ret
  exact ⟨rfl, ((Below.refl _ _).alloc (Nat.le_refl _) _).trans (hb1.mono (by simp))⟩
end Go.Proofs.YtdkmnolljllddaaDoor
