/- The reference's Join and Dir. -/
import Derived.Test.YtdkmnolljllddaaDoorRSplit
namespace Go.Proofs.YtdkmnolljllddaaDoor
open Go.RowKit

theorem S_append (a b : List UInt8) : Value.string (({ data := a.toArray } : ByteArray) ++ ({ data := b.toArray } : ByteArray)) = S (a ++ b) := by
  congr 1

set_option maxHeartbeats 1100000 in
set_option maxRecDepth 100000 in
theorem rjoin_walk (v : Value) (ns : List (List UInt8)) (w : World) (hr : StrRow w v ns) (hlen : ∀ p ∈ ns, p.length ≤ 1100000) (hcnt : ns.length ≤ 1100000) :
    Calls Tryd.prog 42 #[v] w fun e w' => e = .returned (S (joinL ns)) ∧ w = w' := by
  obtain ⟨a, c, rfl, hc, hm, hx⟩ := hr
  have HX := Lib.hid hx
  have HL := Lib.hid hlen
  have HS := Lib.hid (show joinL ns = if ns.length ≤ 8 ∧ ns.all nameB = true then joinS ns else [] from rfl)
  generalize joinL ns = jl at HS ⊢
  clear hx hlen
  by_cases h8 : (8 : Int) < (ns.length : Int)
  · obtain rfl : jl = [] := by rw [HS.out, if_neg]; omega
    go_enter Tryd.func42, Tryd.ntmps42
    go_wp2
    go_ret
    exact ⟨rfl, rfl⟩
  · go_enter Tryd.func42, Tryd.ntmps42
    go_wp2
    go_loop [3, 4] (fun s i => ∃ k : Nat, k ≤ ns.length ∧ i = .int .i64 k ∧ (ns.take k).all nameB = true ∧ s = S (joinS (ns.take k))) (fun _ i => ns.length - (intOf i).toNat)
    case atStart => exact ⟨0, Nat.zero_le _, rfl, rfl, rfl⟩
    case round =>
      obtain ⟨k, hk, rfl, ha, rfl⟩ := hrel
      have HA := Lib.hid ha
      have hjl := joinS_len (ns.take k) ha
      have htl : (ns.take k).length = k := by simp; omega
      rw [htl] at hjl
      clear ha htl
      by_cases hlt : k < ns.length
      · have hx := HX.out
        rcases hx with hx | ⟨b, o, rfl, hx⟩
        · exfalso; rw [hx] at hlt; simp at hlt
        have hcx := hx k ns[k] (by simp [hlt])
        have hpl : ns[k].length ≤ 1100000 := HL.out _ (List.getElem_mem hlt)
        have C2 := rname_walk ns[k] w hpl
        have HT := Lib.hid (allN_take_succ ns k hlt)
        have HJ := Lib.hid (joinS_take hlt)
        have HBD := Lib.hid (fun h => allN_bad hlt h)
        clear hx
        generalize ns[k] = p at *
        generalize joinS (ns.take k) = jk at *
        cases hn : nameB p
        · rw [hn] at C2
          have HF := Lib.hid (HBD.out hn)
          clear hn
          go_wp2_with (go_at_call 70; refine C2.mono ?_; rintro e w2 ⟨rfl, rfl⟩)
          go_ret
          exact ⟨ret_str (by rw [HS.out, if_neg (by rw [HF.out]; simp)]), rfl⟩
        · rw [hn] at C2
          have hpl' := nameB_len hn
          have HF := Lib.hid hn
          clear hn
          by_cases hz : k = 0
          · have hz' : ¬ (0 : Int) < (k : Int) := by omega
            have HJ0 := Lib.hid (show jk = [] from List.length_eq_zero_iff.1 (by omega))
            have HZ := Lib.hid hz
            clear hz
            go_wp2_with (go_at_call 70; refine C2.mono ?_; rintro e w2 ⟨rfl, rfl⟩)
            go_round
            case rel => exact ⟨k + 1, by omega, by go_num, by rw [HT.out, HA.out, HF.out]; rfl, by rw [HJ.out, if_pos HZ.out, S_append, HJ0.out]; rfl⟩
            case measure => simp [intOf]; omega
          · have hz' : (0 : Int) < (k : Int) := by omega
            go_wp2_with (go_at_call 70; refine C2.mono ?_; rintro e w2 ⟨rfl, rfl⟩)
            go_round
            case rel => exact ⟨k + 1, by omega, by go_num, by rw [HT.out, HA.out, HF.out]; rfl, by rw [S_append, HJ.out, if_neg hz]; simp⟩
            case measure => simp [intOf]; omega
      · go_wp2
        go_ret
        have ha := HA.out
        rw [List.take_of_length_le (by omega)] at ha
        exact ⟨ret_str (by rw [HS.out, if_pos ⟨by omega, ha⟩, List.take_of_length_le (by omega)]), rfl⟩

set_option maxHeartbeats 400000 in
theorem rdir_walk (l : List UInt8) (w : World) (hl : l.length ≤ 1100000) :
    Calls Tryd.prog 16 #[S l] w fun e w' => e = .returned (S (dirL l)) ∧ Below w.heap.size w w' := by
  have C := rsplit_walk l w hl
  have HF := Lib.hid (show dirL l = if (splitL l).length < 2 then [] else joinL ((splitL l).take ((splitL l).length - 1)) from rfl)
  have hlen := splitL_len l
  have hle := splitL_le l
  generalize dirL l = fb at HF ⊢
  generalize splitL l = sp at C HF hlen hle
  by_cases h2 : (sp.length : Int) < 2
  · go_enter Tryd.func16, Tryd.ntmps16
    go_wp2_with (go_at_call 41; refine C.mono ?_; rintro e w1 ⟨v, rfl, ⟨a, c, rfl, hc, hm, hx⟩, hb⟩)
    go_ret
    exact ⟨ret_str (by rw [HF.out, if_pos (by omega)]), hb⟩
  · go_enter Tryd.func16, Tryd.ntmps16
    go_wp2_with (go_at_call 41; refine C.mono ?_; rintro e w1 ⟨v, rfl, ⟨a, c, rfl, hc, hm, hx⟩, hb⟩)
    have hr : StrRow w1 (.slice a (sp.length - 1) c) (sp.take (sp.length - 1)) := StrRow.take ⟨_, _, rfl, hc, hm, hx⟩ (by omega)
    refine (rjoin_walk _ _ w1 hr (fun p hp => by have := hlen p (List.mem_of_mem_take hp); omega) (by simp; omega)).mono ?_
    rintro e w2 ⟨rfl, rfl⟩
    go_wp2
    go_ret
    exact ⟨ret_str (by rw [HF.out, if_neg (by omega)]), hb⟩
end Go.Proofs.YtdkmnolljllddaaDoor
