/- cmp.Less and slices.BinarySearch, at texts. -/
import Derived.Test.YtengciicdnkgaaaGreatDoorJKey
import Derived.Test.YtengciicdnkgaaaGreatDoorCmp
import Derived.Sort.Walk0
namespace Go.Proofs.YtengciicdnkgaaaGreatDoor
open Go.RowKit

set_option maxHeartbeats 1100000 in
theorem less_walk (p n : List UInt8) (w : World) : Calls Tryz.prog 64 #[S p, S n] w fun e w' => e = .returned (.bool (Op.bytesLess p n)) ∧ w' = w := by
  have C := fun w => isnan_walk p w
  go_enter Tryz.func64, Tryz.ntmps64
  go_wp2_with (go_at_call 98; refine (C _).mono ?_; rintro e w1 ⟨rfl, rfl⟩)
  go_ret
  exact ⟨rfl, rfl⟩

theorem sisnan_walk (p : List UInt8) (w : World) : Calls Tryz.prog 65 #[S p] w fun e w' => e = .returned (.bool false) ∧ w' = w := by
  have hpp : (p == p) = true := by simp
  go_enter Tryz.func65, Tryz.ntmps65
  go_wp2
  go_ret
  exact ⟨rfl, rfl⟩

set_option maxHeartbeats 2000000 in
set_option maxRecDepth 100000 in
theorem bsStr_walk (v : Value) (l : List (List UInt8)) (n : List UInt8) (w : World) (hr : StrRow w v l) (hcnt : l.length ≤ 1100000) (hup : upS l) :
    Calls Tryz.prog 48 #[v, S n] w fun e w' => e = .returned (.tuple #[.int .i64 (posL l n : Nat), .bool (decide (n ∈ l))]) ∧ Below w.heap.size w w' := by
  obtain ⟨a, c, rfl, hc, hm, hx⟩ := hr
  have HX := Lib.hid hx
  have HUP := Lib.hid hup
  clear hx hup
  obtain ⟨dm, hdm⟩ : ∃ dm, dm = decide (n ∈ l) := ⟨_, rfl⟩
  rw [← hdm]
  have HDM := Lib.hid hdm
  clear hdm
  go_enter Tryz.func48, Tryz.ntmps48
  go_wp2
  go_loopw [7, 8] (fun i j wr => ∃ a b : Nat, a ≤ b ∧ b ≤ l.length ∧ i = .int .i64 a ∧ j = .int .i64 b ∧ (∀ y ∈ l.take a, y < n) ∧ (∀ y ∈ l.drop b, ¬ y < n) ∧ Below w.heap.size w wr) (fun i j _ => (intOf j).toNat - (intOf i).toNat)
  case atStart => exact ⟨0, l.length, Nat.zero_le _, Nat.le_refl _, rfl, rfl, by simp, by rw [List.drop_eq_nil_of_le (by simp)]; simp, Below.refl _ _⟩
  case round =>
    obtain ⟨a0, b0, hab, hb, rfl, rfl, hlo, hhi, hB⟩ := hrel
    have HLO := Lib.hid hlo
    have HHI := Lib.hid hhi
    have HB := Lib.hid hB
    clear hlo hhi
    by_cases h1 : a0 < b0
    · obtain ⟨hk1, hk2⟩ := half h1
      have hkl : (a0 + b0) / 2 < l.length := by omega
      have hx := HX.out
      rcases hx with hx | ⟨b, o, rfl, hx⟩
      · exfalso; rw [hx] at hkl; simp at hkl
      have hc1 := cell_below hB (str_cell hx hkl)
      have HA := Lib.hid (fun h => up_before (n := n) (h := (a0 + b0) / 2) HUP.out hkl h)
      have HD := Lib.hid (fun h => up_behind (n := n) (h := (a0 + b0) / 2) HUP.out hkl h)
      clear hx
      have CL := fun w => less_walk l[(a0 + b0) / 2] n w
      have h3 : (l[(a0 + b0) / 2] < n ∧ Op.bytesLess l[(a0 + b0) / 2] n = true) ∨ (¬ l[(a0 + b0) / 2] < n ∧ Op.bytesLess l[(a0 + b0) / 2] n = false) := by
        by_cases h : l[(a0 + b0) / 2] < n
        · exact .inl ⟨h, less_true h⟩
        · exact .inr ⟨h, less_false h⟩
      generalize l[(a0 + b0) / 2] = y at *
      clear hB
      have h1' : (a0 : Int) < (b0 : Int) := by omega
      rcases h3 with ⟨hlt, hc⟩ | ⟨hlt, hc⟩
      · have HF := Lib.hid (HA.out hlt)
        rw [hc] at CL
        clear hc hlt
        go_wp2_with (go_at_call 64; refine (CL _).mono ?_; rintro e w1 ⟨rfl, rfl⟩)
        go_roundw
        case rel => exact ⟨(a0 + b0) / 2 + 1, b0, by omega, by omega, by go_num, rfl, HF.out, HHI.out, HB.out⟩
        case measure => simp [intOf]; omega
      · have HF := Lib.hid (HD.out hlt)
        rw [hc] at CL
        clear hc hlt
        go_wp2_with (go_at_call 64; refine (CL _).mono ?_; rintro e w1 ⟨rfl, rfl⟩)
        go_roundw
        case rel => exact ⟨a0, (a0 + b0) / 2, by omega, by omega, rfl, by go_num, HLO.out, HF.out, HB.out⟩
        case measure => simp [intOf]; omega
    · obtain rfl : a0 = b0 := by omega
      have HP := Lib.hid (posL_at (n := n) hb HLO.out (fun h => HHI.out _ (by rw [List.drop_eq_getElem_cons h]; exact List.mem_cons_self)))
      by_cases h2 : a0 < l.length
      · have hx := HX.out
        rcases hx with hx | ⟨b, o, rfl, hx⟩
        · exfalso; rw [hx] at h2; simp at h2
        have hc1 := cell_below hB (str_cell hx h2)
        have HM := Lib.hid (mem_at HUP.out HP.out h2)
        clear hx
        have CN := fun w => sisnan_walk l[a0] w
        have h3 := three_ways l[a0] n
        generalize l[a0] = y at *
        have h2' : (a0 : Int) < (l.length : Int) := by omega
        rcases h3 with ⟨e1, _, _, _, e2⟩ | ⟨e1, _, _, _, e2⟩ | ⟨e1, _, _, _, e2⟩
        · have HR := Lib.hid (show dm = false by rw [HDM.out, HM.out, e1]; rfl)
          clear e1 hB
          go_wp2_with fail
          refine (CN _).mono ?_
          rintro e w1 ⟨rfl, rfl⟩
          go_wp2
          go_ret2
          exact ⟨by rw [HP.out, HR.out]; rfl, HB.out⟩
        · have HR := Lib.hid (show dm = true by rw [HDM.out, HM.out, e1]; rfl)
          clear e1 hB
          go_wp2
          go_ret2
          exact ⟨by rw [HP.out, HR.out]; rfl, HB.out⟩
        · have HR := Lib.hid (show dm = false by rw [HDM.out, HM.out, e1]; rfl)
          clear e1 hB
          go_wp2_with fail
          refine (CN _).mono ?_
          rintro e w1 ⟨rfl, rfl⟩
          go_wp2
          go_ret2
          exact ⟨by rw [HP.out, HR.out]; rfl, HB.out⟩
      · have h2' : ¬ (a0 : Int) < (l.length : Int) := by omega
        have HM := Lib.hid (mem_end HUP.out (HP.out.trans (by omega)))
        go_wp2
        go_ret2
        exact ⟨by rw [HP.out, HDM.out, HM.out]; rfl, HB.out⟩
end Go.Proofs.YtengciicdnkgaaaGreatDoor
