/- The reference's Split and Fit. -/
import Derived.Test.YtdkmnolljllddaaDoorRName
import Derived.Test.YtdkmnolljllddaaDoorRParts
namespace Go.Proofs.YtdkmnolljllddaaDoor
open Go.RowKit

set_option maxHeartbeats 1100000 in
set_option maxRecDepth 100000 in
theorem rsplit_walk (l : List UInt8) (w : World) (hl : l.length ≤ 1100000) :
    Calls Tryd.prog 41 #[S l] w fun e w' => ∃ v, e = .returned v ∧ StrRow w' v (splitL l) ∧ Below w.heap.size w w' := by
  have C := rparts_walk l w hl
  have hlen := partsL_len l
  have hcnt := partsL_count l
  have HS := Lib.hid (show splitL l = if (partsL l).length ≤ 8 ∧ (partsL l).all nameB = true then partsL l else [] from rfl)
  generalize splitL l = sp at HS ⊢
  generalize partsL l = ps at C hlen hcnt HS
  have HL := Lib.hid hlen
  clear hlen
  by_cases h8 : (8 : Int) < (ps.length : Int)
  · obtain rfl : sp = [] := by rw [HS.out, if_neg]; omega
    go_enter Tryd.func41, Tryd.ntmps41
    go_wp2_with (go_at_call 53; refine C.mono ?_; rintro e w1 ⟨v, rfl, ⟨a, c, rfl, hc, hm, hx⟩, hb⟩)
    go_ret
    exact ⟨_, rfl, StrRow.nil _, hb⟩
  · go_enter Tryd.func41, Tryd.ntmps41
    go_wp2_with (go_at_call 53; refine C.mono ?_; rintro e w1 ⟨v, rfl, ⟨a, c, rfl, hc, hm, hx⟩, hb⟩)
    have HX := Lib.hid hx
    have HB := Lib.hid hb
    clear hx hb
    go_loop [4] (fun i => ∃ k : Nat, k ≤ ps.length ∧ i = .int .i64 k ∧ (ps.take k).all nameB = true) (fun i => ps.length - (intOf i).toNat)
    case atStart => exact ⟨0, Nat.zero_le _, rfl, rfl⟩
    case round =>
      obtain ⟨k, hk, rfl, ha⟩ := hrel
      have HA := Lib.hid ha
      clear ha
      by_cases hlt : k < ps.length
      · have hx := HX.out
        rcases hx with hx | ⟨b, o, rfl, hx⟩
        · exfalso; rw [hx] at hlt; simp at hlt
        have hcell := hx k ps[k] (by simp [hlt])
        have hpl : ps[k].length ≤ 1100000 := Nat.le_trans (HL.out _ (List.getElem_mem hlt)) hl
        have C2 := rname_walk ps[k] w1 hpl
        have hcx : k < ps.length → w1.cell? ⟨b, o + k, none⟩ = some (S ps[k]) := fun _ => hcell
        have HT := Lib.hid (allN_take_succ ps k hlt)
        have HBD := Lib.hid (fun h => allN_bad hlt h)
        clear hx hcell
        generalize ps[k] = p at *
        cases hn : nameB p
        · rw [hn] at C2
          have HF := Lib.hid (HBD.out hn)
          clear hn
          go_wp2_with (go_at_call 70; refine C2.mono ?_; rintro e w2 ⟨rfl, rfl⟩)
          go_ret
          exact ⟨_, rfl, by rw [HS.out, if_neg (by rw [HF.out]; simp)]; exact StrRow.nil _, HB.out⟩
        · rw [hn] at C2
          have HF := Lib.hid hn
          clear hn
          go_wp2_with (go_at_call 70; refine C2.mono ?_; rintro e w2 ⟨rfl, rfl⟩)
          go_round
          case rel => exact ⟨k + 1, by omega, by go_num, by rw [HT.out, HA.out, HF.out]; rfl⟩
          case measure => simp [intOf]; omega
      · go_wp2
        go_ret
        have ha := HA.out
        rw [List.take_of_length_le (by omega)] at ha
        exact ⟨_, rfl, by rw [HS.out, if_pos ⟨by omega, ha⟩]; exact ⟨_, _, rfl, hc, hm, HX.out⟩, HB.out⟩

set_option maxHeartbeats 400000 in
theorem rfit_walk (l : List UInt8) (w : World) (hl : l.length ≤ 1100000) :
    Calls Tryd.prog 30 #[S l] w fun e w' => e = .returned (.bool (fitB l)) ∧ Below w.heap.size w w' := by
  have C := rsplit_walk l w hl
  have HF := Lib.hid (show fitB l = decide (0 < (splitL l).length) from rfl)
  generalize fitB l = fb at HF ⊢
  generalize splitL l = sp at C HF
  go_enter Tryd.func30, Tryd.ntmps30
  go_wp2_with (go_at_call 41; refine C.mono ?_; rintro e w1 ⟨v, rfl, ⟨a, c, rfl, hc, hm, hx⟩, hb⟩)
  go_ret
  exact ⟨ret_bool (by rw [HF.out]), hb⟩
end Go.Proofs.YtdkmnolljllddaaDoor
