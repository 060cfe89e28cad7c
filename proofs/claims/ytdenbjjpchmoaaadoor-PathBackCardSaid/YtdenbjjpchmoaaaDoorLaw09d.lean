/- Chapter 9: the walk of the statement PathBack. -/
import Derived.Test.YtdenbjjpchmoaaaDoorLaw09c
namespace Go.Proofs.YtdenbjjpchmoaaaDoor
open Go.RowKit

set_option maxHeartbeats 4000000 in
set_option maxRecDepth 100000 in
theorem back_walk (l : List UInt8) (w : World) (hM : Mx w) :
    Calls Tryd.prog 7 #[S l] w fun e w' => e = .returned (.bool true) ∧ Below w.heap.size w w' := by
  have H0 := Wd.start hM
  by_cases h1 : (1000 : Int) < (l.length : Int)
  · go_enter Tryd.func7, Tryd.ntmps7
    go_wp2_with (go_at_call 8; refine (awake_wd H0).mono ?_; rintro e w1 ⟨rfl, hb⟩)
    go_ret
    exact ⟨rfl, hb.below⟩
  have hl : l.length ≤ 1000000 := by omega
  obtain ⟨sp, hsp⟩ : ∃ sp, splitL l = sp := ⟨_, rfl⟩
  cases hf : fitB l with
  | false =>
    have HSP := Lib.hid (splitL_unfit hf)
    have HD := Lib.hid (dirL_unfit hf)
    have HF := Lib.hid hf
    clear hf hsp
    go_enter Tryd.func7, Tryd.ntmps7
    go_wp2_with fail
    refine (split_wd H0 l [] HSP.out hl).mono ?_
    rintro e w1 ⟨v, rfl, ⟨a, c, rfl, hca, hcm, _⟩, H1⟩
    rw [show ([] : List (List UInt8)).length = 0 from rfl]
    go_wp2_with fail
    refine (fit_wd H1 l false HF.out hl).mono ?_
    rintro e w2 ⟨rfl, H2⟩
    go_wp2_with fail
    refine (dir_wd H2 l [] HD.out hl).mono ?_
    rintro e w3 ⟨rfl, H3⟩
    go_wp2_with fail
    refine (awake_wd H3).mono ?_
    rintro e w4 ⟨rfl, H4⟩
    go_wp2
    go_ret
    exact ⟨rfl, H4.below⟩
  | true =>
    have hpos := splitL_pos hf
    have hle := splitL_le l
    have HJ := Lib.hid (joinL_split hf)
    have HDD := Lib.hid (dirL_def hf)
    have HNM := Lib.hid (splitL_names l)
    have HLN := Lib.hid (splitL_len l)
    have HF := Lib.hid hf
    clear hf
    rw [hsp] at hpos hle HJ HDD HNM HLN
    have HSP := Lib.hid hsp
    clear hsp
    have hpos' : ¬ (sp.length : Int) < 1 := by omega
    have hle' : ¬ (8 : Int) < (sp.length : Int) := by omega
    have hll : (l != l) = false := by simp
    go_enter Tryd.func7, Tryd.ntmps7
    go_wp2_with fail
    refine (split_walk l w hM hl).mono ?_
    rintro e w1 ⟨v, rfl, hr, _, hb⟩
    rw [HSP.out] at hr
    have hr1 := hr
    obtain ⟨a, c, rfl, hca, hcm, hx⟩ := hr
    have HX := Lib.hid hx
    have H1 := H0.next hb
    clear hb hx H0
    go_wp2_with fail
    refine (fit_walk l w1 H1.mx hl).mono ?_
    rintro e w2 ⟨rfl, hb⟩
    rw [HF.out]
    have hr2 := hr1.below hb
    have H2 := H1.next hb
    have B2 := Below.trans (Below.refl w1.heap.size w1) hb
    clear hb
    go_wp2_with fail
    refine (join_walk _ sp w2 hr2 (fun p hp => by have := HLN.out p hp; omega) (by omega)).mono ?_
    rintro e w3 ⟨rfl, hb⟩
    rw [HJ.out]
    have H3 := H2.next hb
    have hr3 := hr2.below hb
    have B3 := below_chain B2 hb B2.size
    clear hb hr2
    go_wp2
    go_loopw [5, 42] (fun _ i wr => ∃ k : Nat, k ≤ sp.length ∧ i = .int .i64 k ∧ Below w1.heap.size w1 wr) (fun _ i _ => sp.length - (intOf i).toNat)
    case atStart => exact ⟨0, Nat.zero_le _, rfl, B3⟩
    case round =>
      obtain ⟨k, hk, rfl, HR⟩ := hrel
      by_cases hlt : k < sp.length
      · have hx := HX.out
        rcases hx with hx | ⟨b, o, rfl, hx⟩
        · exfalso; rw [hx] at hlt; simp at hlt
        have hcx := cell_below HR (hx k sp[k] (by simp [hlt]))
        have hnk := Lib.hid (show nameB sp[k] = true from List.all_eq_true.1 HNM.out _ (by simp))
        have hpl : sp[k].length ≤ 1000000 := by have := HLN.out sp[k] (by simp); omega
        clear hx
        generalize sp[k] = p at *
        have hlt' : (k : Int) < (sp.length : Int) := by omega
        have HRh := Lib.hid HR
        go_wp2_with fail
        refine (name_walk p wr hpl).mono ?_
        rintro e w4 ⟨rfl, hb⟩
        rw [hnk.out]
        go_wp2
        go_roundw
        case rel => exact ⟨k + 1, by omega, by go_num, below_chain HRh.out hb HRh.out.size⟩
        case measure => simp [intOf]; omega
      · have hlt' : ¬ (k : Int) < (sp.length : Int) := by omega
        have HW := H1.next HR
        have hrr := hr1.below HR
        have hrt := StrRow.take hrr (n := sp.length - 1) (by omega)
        have HJ2 := Lib.hid HDD.out.symm
        have HL2 := Lib.hid (show ∀ p ∈ sp.take (sp.length - 1), p.length ≤ 1000000 by intro p hp; have := HLN.out p (List.mem_of_mem_take hp); omega)
        have hb1 : (0 : Int) ≤ (sp.length : Int) - 1 := by omega
        have hcu : (sp.length : Int) - 1 ≤ (c : Int) := by omega
        have hcu2 : (sp.length : Int) ≤ (c : Int) + 1 := by omega
        have hcu3 : sp.length - 1 ≤ c := by omega
        have hb2 : ((sp.length : Int) - 1).toNat = sp.length - 1 := by omega
        clear hr3 hr1 H1 HR
        obtain ⟨dl, hdl⟩ : ∃ dl, dirL l = dl := ⟨_, rfl⟩
        have HDL := Lib.hid hdl
        rw [hdl] at HJ2
        clear hdl HDD
        have hdd : (dl == dl) = true := by simp
        have hcut : (sp.take (sp.length - 1)).length ≤ 1000000 := by rw [List.length_take]; omega
        obtain ⟨b, o, rfl⟩ : ∃ b o, a = some ⟨b, o, none⟩ := by
          rcases HX.out with hx | ⟨b, o, rfl, _⟩
          · exfalso; rw [hx] at hpos; simp at hpos
          · exact ⟨b, o, rfl⟩
        clear HX
        generalize sp.length = n at *
        obtain ⟨m, rfl⟩ : ∃ m, n = m + 1 := ⟨n - 1, by omega⟩
        rw [Nat.add_sub_cancel] at hrt HL2 HJ2 hcut
        have hmc : (m : Int) ≤ (c : Int) := by omega
        have hmc2 : m ≤ c := by omega
        have hc0 : ¬ c = 0 := by omega
        have hwr : IntKind.i64.wrap (m : Int) = m := by rw [IntKind.wrap_i64]; omega
        have hm1 : ((m + 1 : Nat) : Int) - 1 = (m : Int) := by omega
        clear hcu hcu2 hcu3 hb2 hb1 hpos' hle' hpos hlt' hca
        go_upto_region 14 with fail
        go_region_with (first
          | (go_at_call 16; refine (dir_walk l _ (HW.drew _).mx hl).mono ?_; rintro e w5 ⟨rfl, hb5⟩; rw [HDL.out])
          | (go_at_call 20; refine (join_walk _ (sp.take m) w5 ((hrt.below (below_drewN _)).below hb5) HL2.out hcut).mono ?_; rintro e w6 ⟨rfl, hb6⟩; rw [HJ2.out])
          | (go_at_call 8; refine (awake_wd (((HW.drew _).next hb5).next hb6)).mono ?_; rintro e w7 ⟨rfl, H7⟩))
        all_goals
          go_wp2
          go_ret
          exact ⟨rfl, H7.below⟩
end Go.Proofs.YtdenbjjpchmoaaaDoor
