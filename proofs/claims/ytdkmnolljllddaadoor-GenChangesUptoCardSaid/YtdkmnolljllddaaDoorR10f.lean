/- The reference's Put of trees. -/
import Derived.Test.YtdkmnolljllddaaDoorR10d
import Derived.Deep.CutRange
namespace Go.Proofs.YtdkmnolljllddaaDoor
open Go.RowKit

theorem putT_wrong {l : List Itm} {x : Itm} {c : Int} (h : wrongT l x = c) (hc : c ≠ 0) : putT l x = (l, c) := by unfold putT; rw [h, if_neg hc]
theorem putT_ok {l : List Itm} {x : Itm} (h : wrongT l x = 0) : putT l x = (withT l x, 0) := by unfold putT; rw [h, if_pos rfl]
/-- What a put answers, by what Find says. -/
theorem wrongT_by {l : List Itm} {x : Itm} {fo fw : Option Itm} (ho : findT l (dirL x.1) = fo) (hw : findT l x.1 = fw) : wrongT l x =
    if fitB x.1 = false then 7 else if oddT x = true then 2
    else if (!(dirL x.1 == []) && !fo.isSome) = true then 5
    else if ((!(dirL x.1 == []) && !(fo.getD zItm).2.1) || (fw.isSome && !((fw.getD zItm).2.1 == x.2.1))) = true then 10
    else if (decide ((32768 : Int) < x.2.2.2.length) || decide (65536 < (sizeT l : Int) - (fw.getD zItm).2.2.2.length + x.2.2.2.length)) = true then 4
    else if (!fw.isSome && decide ((60 : Int) ≤ l.length)) = true then 9 else 0 := by
  subst ho; subst hw
  unfold wrongT oldT
  by_cases h1 : fitB x.1 = false
  · rw [if_pos h1, if_pos h1]
  rw [if_neg h1, if_neg h1]
  by_cases h2 : oddT x = true
  · rw [if_pos h2, if_pos h2]
  rw [if_neg h2, if_neg h2]
  have e1 : (32768 < x.2.2.2.length) ↔ ((32768 : Int) < (x.2.2.2.length : Int)) := by omega
  have e2 : (60 ≤ l.length) ↔ ((60 : Int) ≤ (l.length : Int)) := by omega
  cases findT l (dirL x.1) <;> cases findT l x.1 <;> by_cases hd : dirL x.1 = [] <;> simp [hd, zItm, e1, e2]
end Go.Proofs.YtdkmnolljllddaaDoor
