/- slices.BinarySearchFunc, at silo/api.Item, by a path that it has. -/
import Derived.Test.YtdkmnolljllddaaDoorRowG
import Derived.Test.YtdkmnolljllddaaDoorItAt
import Derived.Test.YtdkmnolljllddaaDoorTreePlain2
namespace Go.Proofs.YtdkmnolljllddaaDoor
open Go.RowKit

theorem halfT {i j : Nat} (h : i < j) : i ≤ (i + j) / 2 ∧ (i + j) / 2 < j := by omega
theorem key_atItem {l : List Itm} {h : Nat} (hh : h < l.length) : (l.map (fun x => x.1))[h]'(by simpa using hh) = l[h].1 := by simp

set_option maxHeartbeats 2000000 in
set_option maxRecDepth 100000 in
theorem bsItem_walk (v fv : Value) (l : List Itm) (n : List UInt8) (w : World) (hfv : fv = .func (.func 96) #[] #[]) (hr : Row itC w v l) (hcnt : l.length ≤ 1100000) (hup : upP (l.map (fun x => x.1))) (hM : Mx w) (hnl : n.length ≤ 1100000) (hkl : ∀ x ∈ l, x.1.length ≤ 1100000) :
    Calls Tryd.prog 95 #[v, S n, fv] w fun e w' => e = .returned (.tuple #[.int .i64 (posT (l.map (fun x => x.1)) n : Nat), .bool (decide (n ∈ l.map (fun x => x.1)))]) ∧ Below w.heap.size w w' := by
  subst hfv
  obtain ⟨a, c, rfl, hc, hm, hx⟩ := hr
  have HX := Lib.hid hx
  have HUP := Lib.hid hup
  have HKL := Lib.hid hkl
  clear hx hup hkl
  obtain ⟨dm, hdm⟩ : ∃ dm, dm = decide (n ∈ l.map (fun x => x.1)) := ⟨_, rfl⟩
  rw [← hdm]
  have HDM := Lib.hid hdm
  clear hdm
  go_enter Tryd.func95, Tryd.ntmps95
  go_wp2
  go_loopw [9, 10] (fun i j wr => ∃ a b : Nat, a ≤ b ∧ b ≤ l.length ∧ i = .int .i64 a ∧ j = .int .i64 b ∧ (∀ y ∈ (l.map (fun x => x.1)).take a, ltP y n = true) ∧ (∀ y ∈ (l.map (fun x => x.1)).drop b, ltP y n = false) ∧ Below w.heap.size w wr) (fun i j _ => (intOf j).toNat - (intOf i).toNat)
  case atStart => exact ⟨0, l.length, Nat.zero_le _, Nat.le_refl _, rfl, rfl, by simp, by rw [List.drop_eq_nil_of_le (by simp)]; simp, Below.refl _ _⟩
  case round =>
    obtain ⟨a0, b0, hab, hb, rfl, rfl, hlo, hhi, hB⟩ := hrel
    have HLO := Lib.hid hlo
    have HHI := Lib.hid hhi
    have HB := Lib.hid hB
    clear hlo hhi
    by_cases h1 : a0 < b0
    · obtain ⟨hk1, hk2⟩ := halfT h1
      have hkl : (a0 + b0) / 2 < l.length := by omega
      have hx := HX.out
      rcases hx with hx | ⟨b, o, rfl, hx⟩
      · exfalso; rw [hx] at hkl; simp at hkl
      have hfacts := it_cells hx hkl
      have HA := Lib.hid (fun h => upT_before (n := n) (h := (a0 + b0) / 2) HUP.out (by simpa using hkl) h)
      have HD := Lib.hid (fun h => upT_behind (n := n) (h := (a0 + b0) / 2) HUP.out (by simpa using hkl) h)
      rw [key_atItem hkl] at HA HD
      clear hx
      have CL := itat_walk l[(a0 + b0) / 2] n (HKL.out _ (List.getElem_mem hkl)) hnl
      have h3 := ltP_three l[(a0 + b0) / 2].1 n
      generalize l[(a0 + b0) / 2] = y at *
      obtain ⟨nm, di, ex, dt⟩ := y
      obtain ⟨hx1, hx2, hx3, hx4⟩ := hfacts
      have hc1 := cell_below hB hx1; have hc2 := cell_below hB hx2; have hc3 := cell_below hB hx3; have hc4 := cell_below hB hx4; clear hx1 hx2 hx3 hx4
      clear hB
      simp only at CL h3 HA HD
      have h1' : (a0 : Int) < (b0 : Int) := by omega
      rcases h3 with ⟨hc, hlt, -, -⟩ | ⟨hc, hlt, -, -⟩ | ⟨hc, hlt, -, -⟩
      · have HF := Lib.hid (HA.out hlt)
        rw [hc] at CL
        clear hc hlt
        go_wp2_with (go_at_call 96; refine (CL _ (hM.below HB.out)).mono ?_; rintro e w1 ⟨rfl, hb1⟩)
        go_roundw
        case rel => exact ⟨(a0 + b0) / 2 + 1, b0, by omega, by omega, by go_num, rfl, HF.out, HHI.out, below_chain HB.out hb1 HB.out.size⟩
        case measure => simp [intOf]; omega
      · have HF := Lib.hid (HD.out hlt)
        rw [hc] at CL
        clear hc hlt
        go_wp2_with (go_at_call 96; refine (CL _ (hM.below HB.out)).mono ?_; rintro e w1 ⟨rfl, hb1⟩)
        go_roundw
        case rel => exact ⟨a0, (a0 + b0) / 2, by omega, by omega, rfl, by go_num, HLO.out, HF.out, below_chain HB.out hb1 HB.out.size⟩
        case measure => simp [intOf]; omega
      · have HF := Lib.hid (HD.out hlt)
        rw [hc] at CL
        clear hc hlt
        go_wp2_with (go_at_call 96; refine (CL _ (hM.below HB.out)).mono ?_; rintro e w1 ⟨rfl, hb1⟩)
        go_roundw
        case rel => exact ⟨a0, (a0 + b0) / 2, by omega, by omega, rfl, by go_num, HLO.out, HF.out, below_chain HB.out hb1 HB.out.size⟩
        case measure => simp [intOf]; omega
    · obtain rfl : a0 = b0 := by omega
      have HP := Lib.hid (posT_at (n := n) (by simpa using hb) HLO.out (fun h => HHI.out _ (by rw [List.drop_eq_getElem_cons h]; simp)))
      by_cases h2 : a0 < l.length
      · have hx := HX.out
        rcases hx with hx | ⟨b, o, rfl, hx⟩
        · exfalso; rw [hx] at h2; simp at h2
        have hfacts := it_cells hx h2
        have HM := Lib.hid (memT_at HUP.out HP.out (by simpa using h2))
        rw [key_atItem h2] at HM
        clear hx
        have CL := itat_walk l[a0] n (HKL.out _ (List.getElem_mem h2)) hnl
        generalize l[a0] = y at *
        obtain ⟨nm, di, ex, dt⟩ := y
        obtain ⟨hx1, hx2, hx3, hx4⟩ := hfacts
        have hc1 := cell_below hB hx1; have hc2 := cell_below hB hx2; have hc3 := cell_below hB hx3; have hc4 := cell_below hB hx4; clear hx1 hx2 hx3 hx4
        clear hB
        simp only at CL HM
        have h2' : (a0 : Int) < (l.length : Int) := by omega
        generalize orderL nm n = r at *
        go_wp2_with (go_at_call 96; refine (CL _ (hM.below HB.out)).mono ?_; rintro e w1 ⟨rfl, hb1⟩)
        go_ret2
        exact ⟨by rw [HP.out, HDM.out, HM.out]; rfl, below_chain HB.out hb1 HB.out.size⟩
      · have h2' : ¬ (a0 : Int) < (l.length : Int) := by omega
        have HM := Lib.hid (memT_end HUP.out (HP.out.trans (by simp; omega)))
        go_wp2
        go_ret2
        exact ⟨by rw [HP.out, HDM.out, HM.out]; rfl, HB.out⟩

end Go.Proofs.YtdkmnolljllddaaDoor
