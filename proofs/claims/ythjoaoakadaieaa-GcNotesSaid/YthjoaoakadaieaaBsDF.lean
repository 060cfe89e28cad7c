/- slices.BinarySearchFunc, at silo/api.DFile, by a text that it has. -/
import Derived.Test.YthjoaoakadaieaaRowG
import Derived.Test.YthjoaoakadaieaaCmp
import Derived.Test.YthjoaoakadaieaaDiskAt1
namespace Go.Proofs.Ythjoaoakadaieaa
open Go.RowKit

theorem key_atDF {l : List DF} {h : Nat} (hh : h < l.length) : (l.map DF.name)[h]'(by simpa using hh) = DF.name l[h] := by simp

set_option maxHeartbeats 2000000 in
set_option maxRecDepth 100000 in
theorem bsDF_walk (v fv : Value) (l : List DF) (n : List UInt8) (w : World) (hfv : fv = .func (.func 74) #[] #[]) (hr : Row dfC w v l) (hcnt : l.length ≤ 1000000) (hup : upS (l.map DF.name)) :
    Calls Try.prog 73 #[v, S n, fv] w fun e w' => e = .returned (.tuple #[.int .i64 (posL (l.map DF.name) n : Nat), .bool (decide (n ∈ l.map DF.name))]) ∧ Below w.heap.size w w' := by
  subst hfv
  obtain ⟨a, c, rfl, hc, hm, hx⟩ := hr
  have HX := Lib.hid hx
  have HUP := Lib.hid hup
  clear hx hup
  obtain ⟨dm, hdm⟩ : ∃ dm, dm = decide (n ∈ l.map DF.name) := ⟨_, rfl⟩
  rw [← hdm]
  have HDM := Lib.hid hdm
  clear hdm
  go_enter Try.func73, Try.ntmps73
  go_wp2
  go_loopw [9, 10] (fun i j wr => ∃ a b : Nat, a ≤ b ∧ b ≤ l.length ∧ i = .int .i64 a ∧ j = .int .i64 b ∧ (∀ y ∈ (l.map DF.name).take a, y < n) ∧ (∀ y ∈ (l.map DF.name).drop b, ¬ y < n) ∧ Below w.heap.size w wr) (fun i j _ => (intOf j).toNat - (intOf i).toNat)
  case atStart => exact ⟨0, l.length, Nat.zero_le _, Nat.le_refl _, rfl, rfl, by simp, by rw [List.drop_eq_nil_of_le (by simp)]; simp, Below.refl _ _⟩
  case round =>
    obtain ⟨a0, b0, hab, hb, rfl, rfl, hlo, hhi, hB⟩ := hrel
    have HLO := Lib.hid hlo
    have HHI := Lib.hid hhi
    have HB := Lib.hid hB
    clear hlo hhi
    by_cases h1 : a0 < b0
    · obtain ⟨hk1, hk2⟩ := half h1
      have hkl : (a0 + b0) / 2 < l.length := by omega
      have hx := HX.out
      rcases hx with hx | ⟨b, o, rfl, hx⟩
      · exfalso; rw [hx] at hkl; simp at hkl
      have hfacts := df_cells hx hkl
      have HA := Lib.hid (fun h => up_before (n := n) (h := (a0 + b0) / 2) HUP.out (by simpa using hkl) h)
      have HD := Lib.hid (fun h => up_behind (n := n) (h := (a0 + b0) / 2) HUP.out (by simpa using hkl) h)
      rw [key_atDF hkl] at HA HD
      clear hx
      have CL := fun w => mat1_walk l[(a0 + b0) / 2] n w
      have h3 := three_ways (DF.name l[(a0 + b0) / 2]) n
      generalize l[(a0 + b0) / 2] = y at *
      obtain ⟨nm, dt, ov, os⟩ := y
      obtain ⟨hx1, hx2, hx3⟩ := hfacts
      have hc1 := cell_below hB hx1; have hc2 := cell_below hB hx2; have hc3 := cell_below hB hx3; clear hx1 hx2 hx3
      clear hB
      simp only at CL h3 HA HD
      have h1' : (a0 : Int) < (b0 : Int) := by omega
      rcases h3 with ⟨hc, hlt, _⟩ | ⟨hc, rfl, _⟩ | ⟨hc, hlt, _⟩
      · have HF := Lib.hid (HA.out hlt)
        rw [hc] at CL
        clear hc hlt
        go_wp2_with (go_at_call 74; refine (CL _).mono ?_; rintro e w1 ⟨rfl, hb1⟩)
        go_roundw
        case rel => exact ⟨(a0 + b0) / 2 + 1, b0, by omega, by omega, by go_num, rfl, HF.out, HHI.out, below_chain HB.out hb1 HB.out.size⟩
        case measure => simp [intOf]; omega
      · have HF := Lib.hid (HD.out (List.lt_irrefl _))
        rw [hc] at CL
        clear hc
        go_wp2_with (go_at_call 74; refine (CL _).mono ?_; rintro e w1 ⟨rfl, hb1⟩)
        go_roundw
        case rel => exact ⟨a0, (a0 + b0) / 2, by omega, by omega, rfl, by go_num, HLO.out, HF.out, below_chain HB.out hb1 HB.out.size⟩
        case measure => simp [intOf]; omega
      · have HF := Lib.hid (HD.out (not_lt_of hlt))
        rw [hc] at CL
        clear hc hlt
        go_wp2_with (go_at_call 74; refine (CL _).mono ?_; rintro e w1 ⟨rfl, hb1⟩)
        go_roundw
        case rel => exact ⟨a0, (a0 + b0) / 2, by omega, by omega, rfl, by go_num, HLO.out, HF.out, below_chain HB.out hb1 HB.out.size⟩
        case measure => simp [intOf]; omega
    · obtain rfl : a0 = b0 := by omega
      have HP := Lib.hid (posL_at (n := n) (by simpa using hb) HLO.out (fun h => HHI.out _ (by rw [List.drop_eq_getElem_cons h]; simp)))
      by_cases h2 : a0 < l.length
      · have hx := HX.out
        rcases hx with hx | ⟨b, o, rfl, hx⟩
        · exfalso; rw [hx] at h2; simp at h2
        have hfacts := df_cells hx h2
        have HM := Lib.hid (mem_at HUP.out HP.out (by simpa using h2))
        rw [key_atDF h2] at HM
        clear hx
        have CL := fun w => mat1_walk l[a0] n w
        generalize l[a0] = y at *
        obtain ⟨nm, dt, ov, os⟩ := y
        obtain ⟨hx1, hx2, hx3⟩ := hfacts
        have hc1 := cell_below hB hx1; have hc2 := cell_below hB hx2; have hc3 := cell_below hB hx3; clear hx1 hx2 hx3
        clear hB
        simp only at CL HM
        have h2' : (a0 : Int) < (l.length : Int) := by omega
        generalize cmpS nm n = r at *
        go_wp2_with (go_at_call 74; refine (CL _).mono ?_; rintro e w1 ⟨rfl, hb1⟩)
        go_ret2
        exact ⟨by rw [HP.out, HDM.out, HM.out]; rfl, below_chain HB.out hb1 HB.out.size⟩
      · have h2' : ¬ (a0 : Int) < (l.length : Int) := by omega
        have HM := Lib.hid (mem_end HUP.out (HP.out.trans (by simp; omega)))
        go_wp2
        go_ret2
        exact ⟨by rw [HP.out, HDM.out, HM.out]; rfl, HB.out⟩

end Go.Proofs.Ythjoaoakadaieaa
