/- The program's look for a key among objects. -/
import Derived.Test.YtbmdoekfbkpaeaaGreatDoorJSort12L
import Derived.Test.YtbmdoekfbkpaeaaGreatDoorJRKey11
namespace Go.Proofs.YtbmdoekfbkpaeaaGreatDoor
open Go.RowKit

set_option maxHeartbeats 400000 in
theorem ato1_walk (x : Snp) (n : List UInt8) (w : World) : Calls Tryz.prog 69 #[SnpV x, S n] w fun e w' => e = .returned (.int .i64 (cmpS x.1 n)) ∧ Below w.heap.size w w' := by
  obtain ⟨p, q⟩ := x
  have C := fun w => compare_walk p n w
  simp only
  generalize cmpS p n = r at *
  go_enter Tryz.func69, Tryz.ntmps69
  go_wp2_with (go_at_call 25; refine (C _).mono ?_; rintro e w1 ⟨rfl, rfl⟩)
  go_ret
  exact ⟨rfl, (Below.refl _ _).alloc (Nat.le_refl _) _⟩

theorem namesO_at {l : List Snp} {h : Nat} (hh : h < l.length) : (l.map (·.1))[h]'(by simpa using hh) = l[h].1 := by simp

set_option maxHeartbeats 2000000 in
set_option maxRecDepth 100000 in
theorem bsearchO_walk (v fv : Value) (l : List Snp) (n : List UInt8) (w : World) (hfv : fv = .func (.func 69) #[] #[]) (hr : SnpRow w v l) (hcnt : l.length ≤ 1100000) (hup : upS (l.map (·.1))) :
    Calls Tryz.prog 68 #[v, S n, fv] w fun e w' => e = .returned (.tuple #[.int .i64 (posL (l.map (·.1)) n : Nat), .bool (decide (n ∈ l.map (·.1)))]) ∧ Below w.heap.size w w' := by
  subst hfv
  obtain ⟨a, c, rfl, hc, hm, hx⟩ := hr
  have HX := Lib.hid hx
  have HUP := Lib.hid hup
  clear hx hup
  go_enter Tryz.func68, Tryz.ntmps68
  go_wp2
  go_loopw [9, 10] (fun i j wr => ∃ a b : Nat, a ≤ b ∧ b ≤ l.length ∧ i = .int .i64 a ∧ j = .int .i64 b ∧ (∀ y ∈ (l.map (·.1)).take a, y < n) ∧ (∀ y ∈ (l.map (·.1)).drop b, ¬ y < n) ∧ Below w.heap.size w wr) (fun i j _ => (intOf j).toNat - (intOf i).toNat)
  case atStart => exact ⟨0, l.length, Nat.zero_le _, Nat.le_refl _, rfl, rfl, by simp, by rw [List.drop_eq_nil_of_le (by simp)]; simp, Below.refl _ _⟩
  case round =>
    obtain ⟨a0, b0, hab, hb, rfl, rfl, hlo, hhi, hB⟩ := hrel
    have HLO := Lib.hid hlo
    have HHI := Lib.hid hhi
    have HB := Lib.hid hB
    clear hlo hhi
    by_cases h1 : a0 < b0
    · obtain ⟨hk1, hk2⟩ := half h1
      have hkl : (a0 + b0) / 2 < l.length := by omega
      have hx := HX.out
      rcases hx with hx | ⟨b, o, rfl, hx⟩
      · exfalso; rw [hx] at hkl; simp at hkl
      obtain ⟨hx1, hx2⟩ := snp_cells hx hkl
      have hc1 := cell_below hB hx1
      have hc2 := cell_below hB hx2
      have HA := Lib.hid (fun h => up_before (n := n) (h := (a0 + b0) / 2) HUP.out (by simpa using hkl) h)
      have HD := Lib.hid (fun h => up_behind (n := n) (h := (a0 + b0) / 2) HUP.out (by simpa using hkl) h)
      rw [namesO_at hkl] at HA HD
      clear hx hx1 hx2 hB
      have CL := fun w => ato1_walk l[(a0 + b0) / 2] n w
      have h3 := three_ways l[(a0 + b0) / 2].1 n
      generalize l[(a0 + b0) / 2] = y at *
      obtain ⟨p, q⟩ := y
      simp only at CL h3 HA HD
      have h1' : (a0 : Int) < (b0 : Int) := by omega
      rcases h3 with ⟨hc, hlt, _⟩ | ⟨hc, rfl, _⟩ | ⟨hc, hlt, _⟩
      · have HF := Lib.hid (HA.out hlt)
        rw [hc] at CL
        clear hc hlt
        go_wp2_with (go_at_call 69; refine (CL _).mono ?_; rintro e w1 ⟨rfl, hb1⟩)
        go_roundw
        case rel => exact ⟨(a0 + b0) / 2 + 1, b0, by omega, by omega, by go_num, rfl, HF.out, HHI.out, below_chain HB.out hb1 HB.out.size⟩
        case measure => simp [intOf]; omega
      · have HF := Lib.hid (HD.out (List.lt_irrefl _))
        rw [hc] at CL
        clear hc
        go_wp2_with (go_at_call 69; refine (CL _).mono ?_; rintro e w1 ⟨rfl, hb1⟩)
        go_roundw
        case rel => exact ⟨a0, (a0 + b0) / 2, by omega, by omega, rfl, by go_num, HLO.out, HF.out, below_chain HB.out hb1 HB.out.size⟩
        case measure => simp [intOf]; omega
      · have HF := Lib.hid (HD.out (not_lt_of hlt))
        rw [hc] at CL
        clear hc hlt
        go_wp2_with (go_at_call 69; refine (CL _).mono ?_; rintro e w1 ⟨rfl, hb1⟩)
        go_roundw
        case rel => exact ⟨a0, (a0 + b0) / 2, by omega, by omega, rfl, by go_num, HLO.out, HF.out, below_chain HB.out hb1 HB.out.size⟩
        case measure => simp [intOf]; omega
    · obtain rfl : a0 = b0 := by omega
      have HP := Lib.hid (posL_at (n := n) (by simpa using hb) HLO.out (fun h => HHI.out _ (by rw [List.drop_eq_getElem_cons h]; simp)))
      by_cases h2 : a0 < l.length
      · have hx := HX.out
        rcases hx with hx | ⟨b, o, rfl, hx⟩
        · exfalso; rw [hx] at h2; simp at h2
        obtain ⟨hx1, hx2⟩ := snp_cells hx h2
        have hc1 := cell_below hB hx1
        have hc2 := cell_below hB hx2
        have HM := Lib.hid (mem_at HUP.out HP.out (by simpa using h2))
        rw [namesO_at h2] at HM
        clear hx hx1 hx2 hB
        have CL := fun w => ato1_walk l[a0] n w
        generalize l[a0] = y at *
        obtain ⟨p, q⟩ := y
        simp only at CL HM
        have h2' : (a0 : Int) < (l.length : Int) := by omega
        generalize cmpS p n = r at *
        go_wp2_with (go_at_call 69; refine (CL _).mono ?_; rintro e w1 ⟨rfl, hb1⟩)
        go_ret2
        exact ⟨by rw [HP.out, HM.out]; rfl, below_chain HB.out hb1 HB.out.size⟩
      · have h2' : ¬ (a0 : Int) < (l.length : Int) := by omega
        have HM := Lib.hid (mem_end HUP.out (HP.out.trans (by simp; omega)))
        go_wp2
        go_ret2
        exact ⟨by rw [HP.out, HM.out]; rfl, HB.out⟩

theorem pato_walk (v : Value) (l : List Snp) (n : List UInt8) (w : World) (hr : SnpRow w v l) (hcnt : l.length ≤ 1100000) (hup : upS (l.map (·.1))) :
    Calls Tryz.prog 41 #[v, S n] w fun e w' => e = .returned (.tuple #[.int .i64 (posL (l.map (·.1)) n : Nat), .bool (decide (n ∈ l.map (·.1)))]) ∧ Below w.heap.size w w' := by
  have C := bsearchO_walk v _ l n w rfl hr hcnt hup
  generalize posL (l.map (·.1)) n = pp at *
  generalize decide (n ∈ l.map (·.1)) = dd at *
  go_enter Tryz.func41, Tryz.ntmps41
  go_wp2_with (go_at_call 68; refine (C).mono ?_; rintro e w1 ⟨rfl, hb1⟩)
  go_ret2
  exact ⟨rfl, hb1⟩

set_option maxHeartbeats 1100000 in
set_option maxRecDepth 100000 in
theorem pget_walk (v : Value) (l : List Snp) (n : List UInt8) (w : World) (hr : SnpRow w v l) (hcnt : l.length ≤ 1100000) (hup : upS (namesR l)) :
    Calls Tryz.prog 21 #[v, S n] w fun e w' => e = .returned (.tuple #[S (rootOf (findR l n)), .bool (findR l n).isSome]) ∧ Below w.heap.size w w' := by
  have C := pato_walk v l n w hr hcnt hup
  obtain ⟨a, c, rfl, hc, hm, hx⟩ := hr
  by_cases hin : n ∈ namesR l
  · obtain ⟨hk, hf⟩ := findR_pos hup hin
    have HF := Lib.hid hf
    have hin2 : decide (n ∈ l.map (·.1)) = true := by simpa [namesR] using hin
    rw [hin2] at C
    have hpp : posL (l.map (·.1)) n = posL (namesR l) n := rfl
    rw [hpp] at C
    clear hf hin hin2 hpp hup
    rcases hx with hx | ⟨b, o, rfl, hx⟩
    · exfalso; rw [hx] at hk; simp at hk
    obtain ⟨hx1, hx2⟩ := snp_cells hx hk
    clear hx
    generalize posL (namesR l) n = k at *
    generalize l[k] = y at *
    obtain ⟨p, q⟩ := y
    have hk' : (k : Int) < (l.length : Int) := by omega
    rw [HF.out]
    go_enter Tryz.func21, Tryz.ntmps21
    go_wp2_with (go_at_call 41; refine C.mono ?_; rintro e w1 ⟨rfl, hb⟩; have hc1 := cell_below hb hx1; have hc2 := cell_below hb hx2)
    go_ret2
    exact ⟨rfl, hb⟩
  · have HF := Lib.hid (findR_none hin)
    have hin2 : decide (n ∈ l.map (·.1)) = false := by simpa [namesR] using hin
    rw [hin2] at C
    clear hin hin2 hx
    rw [HF.out]
    generalize posL (l.map (·.1)) n = k at *
    go_enter Tryz.func21, Tryz.ntmps21
    go_wp2_with (go_at_call 41; refine (C).mono ?_; rintro e w1 ⟨rfl, hb⟩)
    go_ret2
    exact ⟨rfl, hb⟩
end Go.Proofs.YtbmdoekfbkpaeaaGreatDoor
