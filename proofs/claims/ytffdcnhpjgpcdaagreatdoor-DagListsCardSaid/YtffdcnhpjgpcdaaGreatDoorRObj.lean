/- The reference's Get and Fit of objects. -/
import Derived.Test.YtffdcnhpjgpcdaaGreatDoorSnpPlain
import Derived.Test.YtffdcnhpjgpcdaaGreatDoorJKey
namespace Go.Proofs.YtffdcnhpjgpcdaaGreatDoor
open Go.RowKit

/-- The first texts of a row of pairs. -/
def KeyRow (w : World) (v : Value) (xs : List (List UInt8)) : Prop :=
  ∃ a c, v = .slice a xs.length c ∧ xs.length ≤ c ∧ c ≤ maxLen ∧ (xs = [] ∨ ∃ b o, a = some ⟨b, o, none⟩ ∧ ∀ j (h : j < xs.length), w.cell? ⟨b, o + j * 2, none⟩ = some (S xs[j]))
theorem KeyRow.of {w : World} {v : Value} {l : List Snp} (h : SnpRow w v l) : KeyRow w v (namesR l) := by
  obtain ⟨a, c, hv, hc, hm, hx⟩ := h
  rw [← namesR_len l] at hv hc
  refine ⟨a, c, hv, hc, hm, ?_⟩
  rcases hx with hx | ⟨b, o, ha, hx⟩
  · exact .inl (by rw [hx]; rfl)
  · refine .inr ⟨b, o, ha, fun j hj => ?_⟩
    have hj2 : j < l.length := by rwa [namesR_len] at hj
    rw [(snp_cells hx hj2).1]
    simp [namesR]

set_option maxHeartbeats 1100000 in
set_option maxRecDepth 100000 in
theorem rget_walk (v : Value) (l : List Snp) (n : List UInt8) (w : World) (hr : SnpRow w v l) (hcnt : l.length ≤ 1100000) :
    Calls Tryz.prog 13 #[v, S n] w fun e w' => e = .returned (.tuple #[S (rootOf (findR l n)), .bool (findR l n).isSome]) ∧ Below w.heap.size w w' := by
  obtain ⟨a, c, rfl, hc, hm, hx⟩ := hr
  have HX := Lib.hid hx
  clear hx
  go_enter Tryz.func13, Tryz.ntmps13
  go_wp2
  go_loopw [6] (fun i wr => ∃ k : Nat, k ≤ l.length ∧ i = .int .i64 k ∧ findR (l.take k) n = none ∧ Below w.heap.size w wr) (fun i _ => l.length - (intOf i).toNat)
  case atStart => exact ⟨0, Nat.zero_le _, rfl, rfl, Below.refl _ _⟩
  case round =>
    obtain ⟨k, hk, rfl, ht, hB⟩ := hrel
    have HT := Lib.hid ht
    have HB := Lib.hid hB
    clear ht
    by_cases h1 : k < l.length
    · have hx := HX.out
      rcases hx with hx | ⟨b, o, rfl, hx⟩
      · exfalso; rw [hx] at h1; simp at h1
      obtain ⟨hx1, hx2⟩ := snp_cells hx h1
      have hc1 := cell_below hB hx1
      have hc2 := cell_below hB hx2
      have HE := Lib.hid (fun he : l[k].1 = n => findR_at h1 he HT.out)
      have HN := Lib.hid (fun he : l[k].1 ≠ n => findR_step h1 he HT.out)
      clear hx hx1 hx2 hB
      generalize l[k] = y at *
      obtain ⟨p, q⟩ := y
      have h1' : (k : Int) < (l.length : Int) := by omega
      by_cases hpn : p = n
      · subst hpn
        have HS := Lib.hid (HE.out rfl)
        have hpp : (p == p) = true := by simp
        go_wp2
        go_ret2
        exact ⟨by rw [HS.out]; rfl, HB.out⟩
      · have HS := Lib.hid (HN.out hpn)
        have hpp : (p == n) = false := by rw [beq_eq_false_iff_ne]; exact hpn
        go_wp2
        go_roundw
        case rel => exact ⟨k + 1, by omega, by go_num, HS.out, HB.out⟩
        case measure => simp [intOf]; omega
    · have h1' : ¬ (k : Int) < (l.length : Int) := by omega
      have HK := Lib.hid (show findR l n = none by rw [← HT.out, List.take_of_length_le (by omega)])
      go_wp2
      go_ret2
      exact ⟨by rw [HK.out]; rfl, HB.out⟩


set_option maxHeartbeats 4000000 in
set_option maxRecDepth 100000 in
theorem rfitk_walk (v : Value) (xs : List (List UInt8)) (w : World) (hr : KeyRow w v xs) (hcnt : xs.length ≤ 1100000) :
    Calls Tryz.prog 6 #[v] w fun e w' => e = .returned (.bool (fit5 xs)) ∧ Below w.heap.size w w' := by
  obtain ⟨a, c, rfl, hc, hm, hx⟩ := hr
  have HX := Lib.hid hx
  have HBAD := Lib.hid (fun k h => fit5_bad (l := xs) (k := k) h)
  have HDWN := Lib.hid (fun j h => fit5_down (l := xs) (j := j) h)
  have HALLF := Lib.hid (fun h1 h2 => fit5_all (l := xs) h1 h2)
  generalize fit5 xs = res at *
  clear hx
  go_enter Tryz.func6, Tryz.ntmps6
  go_wp2
  go_loopw [3] (fun i wr => ∃ k : Nat, k ≤ xs.length ∧ i = .int .i64 k ∧ (∀ x ∈ xs.take k, x.length = 32) ∧ upN (xs.take k) = true ∧ Below w.heap.size w wr) (fun i _ => xs.length - (intOf i).toNat)
  case atStart => exact ⟨0, Nat.zero_le _, rfl, by simp, rfl, Below.refl _ _⟩
  case round =>
    obtain ⟨k, hk, rfl, ha, hu, hB⟩ := hrel
    have HA := Lib.hid ha
    have HU := Lib.hid hu
    clear ha hu
    by_cases h1 : k < xs.length
    · have h1' : (k : Int) < (xs.length : Int) := by omega
      have hx := HX.out
      rcases hx with hx | ⟨b, o, rfl, hx⟩
      · exfalso; rw [hx] at h1; simp at h1
      have hc1 := cell_below hB (hx _ h1)
      have HB1 := Lib.hid (HBAD.out k h1)
      have HA1 := Lib.hid (all32_step h1 HA.out)
      by_cases hz : k = 0
      · subst hz
        have HU1 := Lib.hid (fit5_one xs)
        simp only [Nat.zero_mul, Nat.add_zero] at hc1
        have hz0 : ((0 : Nat) : Int) = 0 := rfl
        clear hx
        generalize xs[0] = y at *
        by_cases hl : y.length = 32
        · have hl' : ((y.length : Int) != 32) = false := by rw [bne_eq_false_iff_eq]; omega
          have HS := Lib.hid (HA1.out hl)
          clear hl
          go_wp2
          go_quiet (fail)
          go_wp2
          go_roundw
          case rel => exact ⟨1, by omega, by go_num, HS.out, HU1.out, belowN hB _⟩
          case measure => simp [intOf]; omega
        · have hl' : ((y.length : Int) != 32) = true := by rw [bne_iff_ne]; omega
          have HR := Lib.hid (HB1.out hl)
          clear hl
          go_wp2
          go_quiet (fail)
          go_wp2
          go_ret
          exact ⟨by rw [HR.out]; rfl, belowN hB _⟩
      · obtain ⟨j, rfl⟩ : ∃ j, k = j + 1 := ⟨k - 1, by omega⟩
        have hj : j < xs.length := by omega
        have hc2 := cell_below hB (hx _ hj)
        have HD := Lib.hid (HDWN.out j h1)
        have HUS := Lib.hid (upN_step h1)
        have hwr : IntKind.i64.wrap (j : Int) = (j : Int) := by rw [IntKind.wrap_i64]; omega
        have hpos : (0 : Int) < ((j + 1 : Nat) : Int) := by omega
        have hj' : (j : Int) < (xs.length : Int) := by omega
        clear hx hz
        generalize xs[j + 1] = y at *
        generalize xs[j] = y0 at *
        by_cases hl : y.length = 32
        · have hl' : ((y.length : Int) != 32) = false := by rw [bne_eq_false_iff_eq]; omega
          have HS := Lib.hid (HA1.out hl)
          clear hl
          have hcase : (y0 < y ∧ Op.bytesLess y0 y = true) ∨ (¬ y0 < y ∧ Op.bytesLess y0 y = false) := by
            rw [bytesLess_eq]
            by_cases h : y0 < y
            · exact .inl ⟨h, by simpa using h⟩
            · exact .inr ⟨h, by simpa using h⟩
          rcases hcase with ⟨hlt, hbl⟩ | ⟨hlt, hbl⟩
          · have HU2 := Lib.hid (show upN (xs.take (j + 2)) = true by rw [HUS.out, HU.out]; simp [hlt])
            clear hlt
            go_wp2
            go_quiet (fail)
            go_wp2
            go_roundw
            case rel => exact ⟨j + 2, by omega, by go_num, HS.out, HU2.out, belowN hB _⟩
            case measure => simp [intOf]; omega
          · have HR := Lib.hid (HD.out hlt)
            clear hlt
            go_wp2
            go_quiet (fail)
            go_wp2
            go_ret
            exact ⟨by rw [HR.out]; rfl, belowN hB _⟩
        · have hl' : ((y.length : Int) != 32) = true := by rw [bne_iff_ne]; omega
          have HR := Lib.hid (HB1.out hl)
          clear hl
          go_wp2
          go_quiet (fail)
          go_wp2
          go_ret
          exact ⟨by rw [HR.out]; rfl, belowN hB _⟩
    · have h1' : ¬ (k : Int) < (xs.length : Int) := by omega
      have HR := Lib.hid (HALLF.out (by have e := HA.out; rwa [List.take_of_length_le (by omega)] at e) (by have e := HU.out; rwa [List.take_of_length_le (by omega)] at e))
      go_wp2
      go_ret
      exact ⟨by rw [HR.out]; rfl, hB⟩

theorem rfitO_walk (v : Value) (l : List Snp) (w : World) (hr : SnpRow w v l) (hcnt : l.length ≤ 1100000) :
    Calls Tryz.prog 6 #[v] w fun e w' => e = .returned (.bool (fit5 (namesR l))) ∧ Below w.heap.size w w' :=
  rfitk_walk v (namesR l) w (KeyRow.of hr) (by rw [namesR_len]; exact hcnt)
end Go.Proofs.YtffdcnhpjgpcdaaGreatDoor
