/- The reference's rolling hashes, and where it cuts. -/
import Derived.Test.YtaompdnnkfmjhaaGreatDoorJCdcPlain
import Derived.Test.YtaompdnnkfmjhaaGreatDoorJMapI
import Derived.Test.YtaompdnnkfmjhaaGreatDoorJCList
import Derived.Deep.Cut
import Derived.Deep.RegionWith
namespace Go.Proofs.YtaompdnnkfmjhaaGreatDoor
open Go.RowKit

theorem tab_last {m : Int} (h0 : 0 ≤ m) (h1 : m < 18446744073709551616) : bits .xor .u64 m (m / 2147483648) = mixG m 2147483648 1 := by
  unfold mixG
  have h2 : 0 ≤ m / 2147483648 := by omega
  have h3 : m / 2147483648 < 18446744073709551616 := by omega
  obtain ⟨a, rfl⟩ := Int.eq_ofNat_of_zero_le h0
  obtain ⟨b, hb⟩ := Int.eq_ofNat_of_zero_le h2
  rw [hb] at h3 ⊢
  rw [u64_xor_nat a b (by omega) (by omega), Int.mul_one, IntKind.wrap_u64]
  have := Nat.xor_lt_two_pow (n := 64) (x := a) (y := b) (by omega) (by omega)
  omega

set_option maxHeartbeats 1000000 in
theorem r06table_walk (b : UInt8) (w : World) : Calls Tryz.prog 152 #[.int .u8 (b.toNat : Nat)] w fun e w' => e = .returned (.int .u64 (tabG b)) ∧ w' = w := by
  have HT := Lib.hid (tab_last (wrap64_range (bits .xor .u64 (IntKind.u64.wrap (bits .xor .u64 (IntKind.u64.wrap (IntKind.u64.wrap (IntKind.u64.wrap ((b.toNat : Nat) : Int) + 1) * 11400714819323198485)) (IntKind.u64.wrap (IntKind.u64.wrap (IntKind.u64.wrap ((b.toNat : Nat) : Int) + 1) * 11400714819323198485) / 1073741824) * 13787848793156543929)) (IntKind.u64.wrap (bits .xor .u64 (IntKind.u64.wrap (IntKind.u64.wrap (IntKind.u64.wrap ((b.toNat : Nat) : Int) + 1) * 11400714819323198485)) (IntKind.u64.wrap (IntKind.u64.wrap (IntKind.u64.wrap ((b.toNat : Nat) : Int) + 1) * 11400714819323198485) / 1073741824) * 13787848793156543929) / 134217728) * 10723151780598845931)).1 (wrap64_range _).2)
  go_enter Tryz.func152, Tryz.ntmps152
  go_wp2
  go_ret
  exact ⟨congrArg (fun t => Ending.returned (Value.int IntKind.u64 t)) HT.out, rfl⟩
theorem r06roll_walk (h : Int) (b : UInt8) (w : World) : Calls Tryz.prog 138 #[.int .u64 h, .int .u8 (b.toNat : Nat)] w fun e w' => e = .returned (.int .u64 (rollG h b)) ∧ w' = w := by
  have C := r06table_walk b w
  have HR := Lib.hid (show IntKind.u64.wrap (IntKind.u64.wrap (2 * h) + tabG b) = rollG h b by rw [Int.mul_comm]; rfl)
  generalize rollG h b = r at *
  generalize tabG b = t at *
  go_enter Tryz.func138, Tryz.ntmps138
  go_wp2_with fail
  refine C.mono ?_
  rintro e w1 ⟨rfl, rfl⟩
  go_wp2
  go_ret
  exact ⟨congrArg (fun t => Ending.returned (Value.int IntKind.u64 t)) HR.out, rfl⟩

/-- The value of parameters. -/
abbrev PrmV (x y z : Nat) : Value := .agg #[.int .i64 (x : Nat), .int .i64 (y : Nat), .int .i64 (z : Nat)]

theorem pow_wrap {k : Nat} (h : k < 30) : wrap64 ((2 : Int) ^ k) = ((2 ^ k : Nat) : Int) := by
  have h2 : 2 ^ k < 2 ^ 30 := Nat.pow_lt_pow_right (by decide) h
  have h3 : ((2 ^ k : Nat) : Int) = (2 : Int) ^ k := by rw [Int.natCast_pow]; rfl
  rw [← h3]
  unfold wrap64
  generalize 2 ^ k = m at *
  omega
/-- How often 2 divides a power of two; -1: it is none. -/
def powI (n : Int) : Int := match (List.range 30).find? (fun k => n == ((2 ^ k : Nat) : Int)) with | some k => k | none => -1
theorem powI_at {n : Int} {k : Nat} (hk : k < 30) (h : ∀ j < k, n ≠ ((2 ^ j : Nat) : Int)) (he : n = ((2 ^ k : Nat) : Int)) : powI n = k := by
  unfold powI
  have : (List.range 30).find? (fun k => n == ((2 ^ k : Nat) : Int)) = some k := by
    rw [List.find?_range_eq_some]
    refine ⟨by rw [beq_iff_eq]; exact he, by rw [List.mem_range]; exact hk, fun j hj => ?_⟩
    simp only [Bool.not_eq_true', beq_eq_false_iff_ne]
    exact h j hj
  rw [this]
theorem powI_no {n : Int} (h : ∀ j < 30, n ≠ ((2 ^ j : Nat) : Int)) : powI n = -1 := by
  unfold powI
  have : (List.range 30).find? (fun k => n == ((2 ^ k : Nat) : Int)) = none := by
    rw [List.find?_eq_none]
    intro j hj
    rw [beq_iff_eq]
    exact h j (List.mem_range.1 hj)
  rw [this]
theorem powI_pow {k : Nat} (hk : k < 30) : powI ((2 ^ k : Nat) : Int) = k :=
  powI_at hk (fun j hj e => by
    have : 2 ^ j < 2 ^ k := Nat.pow_lt_pow_right (by decide) hj
    omega) rfl
theorem powI_pos {n : Int} (h : 0 < powI n) : ∃ k : Nat, 1 ≤ k ∧ k < 30 ∧ n = ((2 ^ k : Nat) : Int) := by
  unfold powI at h
  cases hf : (List.range 30).find? (fun k => n == ((2 ^ k : Nat) : Int)) with
  | none => rw [hf] at h; simp at h
  | some k =>
    rw [hf] at h
    have h1 := List.find?_some hf
    have h2 := List.mem_range.1 (List.mem_of_find?_eq_some hf)
    rw [beq_iff_eq] at h1
    exact ⟨k, by simp at h; omega, h2, h1⟩
set_option maxHeartbeats 1000000 in
theorem r07power_walk (n : Int) (w : World) : Calls Tryz.prog 85 #[.int .i64 n] w fun e w' => e = .returned (.int .i64 (powI n)) ∧ w' = w := by
  have HP := Lib.hid (fun (k : Nat) (hk : k < 30) (h : ∀ j < k, n ≠ ((2 ^ j : Nat) : Int)) (he : n = ((2 ^ k : Nat) : Int)) => powI_at hk h he)
  have HN := Lib.hid (fun (h : ∀ j < 30, n ≠ ((2 ^ j : Nat) : Int)) => powI_no h)
  generalize powI n = p at *
  go_enter Tryz.func85, Tryz.ntmps85
  go_wp2
  go_loopw [3] (fun i wr => wr = w ∧ ∃ k : Nat, k ≤ 30 ∧ i = .int .i64 k ∧ ∀ j < k, n ≠ ((2 ^ j : Nat) : Int)) (fun i _ => 30 - (intOf i).toNat)
  case atStart => exact ⟨rfl, 0, by omega, rfl, fun j hj => by omega⟩
  case round =>
    obtain ⟨rfl, k, hk, rfl, hall⟩ := hrel
    have HALL := Lib.hid hall
    clear hall
    by_cases h1 : k < 30
    · have h1' : (k : Int) < 30 := by omega
      have hpw := pow_wrap h1
      by_cases h2 : n = ((2 ^ k : Nat) : Int)
      · have h2' : (n == wrap64 (2 ^ k)) = true := by rw [hpw, beq_iff_eq]; exact h2
        have HK := Lib.hid (HP.out k h1 HALL.out h2)
        clear h2 hpw
        go_wp2
        go_ret
        exact ⟨by rw [HK.out]; rfl, rfl⟩
      · have h2' : (n == wrap64 (2 ^ k)) = false := by rw [hpw, beq_eq_false_iff_ne]; exact h2
        have HK := Lib.hid h2
        clear h2 hpw
        go_wp2
        go_roundw
        case rel =>
          refine ⟨trivial, k + 1, by omega, by go_num, fun j hj => ?_⟩
          by_cases e : j = k
          · subst e; exact HK.out
          · exact HALL.out j (by omega)
        case measure => simp [intOf]; omega
    · have h1' : ¬ (k : Int) < 30 := by omega
      obtain rfl : k = 30 := by omega
      go_wp2
      go_ret
      exact ⟨by rw [HN.out HALL.out]; rfl, rfl⟩

theorem pow64_wrap {k : Nat} (h1 : 1 ≤ k) (h : k ≤ 64) : (IntKind.u64.wrap (IntKind.i64.wrap (64 - (k : Int)))).toNat = 64 - k := by
  rw [IntKind.wrap_i64, IntKind.wrap_u64]; omega
theorem shr_zero {h : Int} {n : Nat} (h0 : 0 ≤ h) : (h / 2 ^ n == 0) = decide (h < 2 ^ n) := by
  have hp : (0 : Int) < 2 ^ n := Int.pow_pos (by decide)
  rw [Bool.eq_iff_iff, beq_iff_eq, decide_eq_true_eq]
  constructor
  · intro e
    have := Int.lt_ediv_add_one_mul_self h hp
    rw [e] at this; omega
  · intro hl
    exact Int.ediv_eq_zero_of_lt h0 hl
set_option maxHeartbeats 1000000 in
theorem r07blank_walk (h : Int) (k : Nat) (w : World) (h0 : 0 ≤ h) (h1 : h < 18446744073709551616) (hk : k ≤ 60) : Calls Tryz.prog 139 #[.int .u64 h, .int .i64 k] w fun e w' => e = .returned (.bool (decide (h < 2 ^ (64 - k)))) ∧ w' = w := by
  by_cases hk0 : k = 0
  · subst hk0
    rw [show decide (h < 2 ^ (64 - 0)) = true by rw [decide_eq_true_eq]; exact h1]
    go_enter Tryz.func139, Tryz.ntmps139
    go_wp2
    go_ret
    exact ⟨rfl, rfl⟩
  · have hz : ((k : Int) == 0) = false := by rw [beq_eq_false_iff_ne]; omega
    have HQ := Lib.hid (shr_zero (n := 64 - k) h0)
    have HW := Lib.hid (pow64_wrap (k := k) (by omega) (by omega))
    clear hk0
    go_enter Tryz.func139, Tryz.ntmps139
    go_wp2
    go_ret
    exact ⟨congrArg (fun t => Ending.returned (Value.bool t)) HQ.out, rfl⟩

def fitCB (x y z : Int) : Bool := decide (1 ≤ x) && (decide (2 ≤ y) && (decide (0 < powI y) && (decide (x ≤ y) && (decide (y ≤ z) && decide (z ≤ 4096)))))
theorem fitCB_some {x y z : Int} (h : fitCB x y z = true) : ∃ a k c : Nat, FitC a k c ∧ x = a ∧ y = ((2 ^ k : Nat) : Int) ∧ z = c := by
  unfold fitCB at h
  simp only [Bool.and_eq_true, decide_eq_true_eq] at h
  obtain ⟨h1, h2, h3, h4, h5, h6⟩ := h
  obtain ⟨k, hk1, hk2, hk3⟩ := powI_pos h3
  refine ⟨x.toNat, k, z.toNat, ⟨by omega, hk1, ?_, by omega, by omega, by omega⟩, by omega, hk3, by omega⟩
  refine Classical.byContradiction fun hc => ?_
  have : 2 ^ 13 ≤ 2 ^ k := Nat.pow_le_pow_right (by decide) (by omega)
  omega
set_option maxHeartbeats 1000000 in
theorem r07fit_walk (x y z : Int) (w : World) : Calls Tryz.prog 66 #[.agg #[.int .i64 x, .int .i64 y, .int .i64 z]] w fun e w' => e = .returned (.bool (fitCB x y z)) ∧ Below w.heap.size w w' := by
  obtain ⟨w1, hw1, HB1, c0, c1, c2⟩ : ∃ w1, w1 = w.alloc (.cells #[.int .i64 x, .int .i64 y, .int .i64 z] 51) ∧ Hid (Below w.heap.size w w1) ∧ w1.cell? ⟨w.heap.size, 0, none⟩ = some (.int .i64 x) ∧ w1.cell? ⟨w.heap.size, 1, none⟩ = some (.int .i64 y) ∧ w1.cell? ⟨w.heap.size, 2, none⟩ = some (.int .i64 z) :=
    ⟨_, rfl, Lib.hid ((Below.refl _ _).alloc (Nat.le_refl _) _), cell_new _ _ _ 0 rfl, cell_new _ _ _ 1 rfl, cell_new _ _ _ 2 rfl⟩
  have C := r07power_walk y w1
  have HF := Lib.hid (show fitCB x y z = (decide (1 ≤ x) && (decide (2 ≤ y) && (decide (0 < powI y) && (decide (x ≤ y) && (decide (y ≤ z) && decide (z ≤ 4096)))))) from rfl)
  generalize fitCB x y z = f at *
  generalize powI y = p at *
  go_enter Tryz.func66, Tryz.ntmps66
  go_upto_region 1 with fail
  rw [← hw1]
  clear hw1
  by_cases h1 : 1 ≤ x
  case neg =>
    have HR := Lib.hid (show f = false by rw [HF.out]; simp [h1])
    go_wp2
    go_ret
    exact ⟨by rw [HR.out]; rfl, HB1.out⟩
  by_cases h2 : 2 ≤ y
  case neg =>
    have HR := Lib.hid (show f = false by rw [HF.out]; simp [h2])
    go_wp2
    go_ret
    exact ⟨by rw [HR.out]; rfl, HB1.out⟩
  by_cases h3 : 0 < p
  case neg =>
    have HR := Lib.hid (show f = false by rw [HF.out]; simp [h3])
    go_wp2_with fail
    refine C.mono ?_
    rintro e w2 ⟨rfl, rfl⟩
    go_wp2
    go_ret
    exact ⟨by rw [HR.out]; rfl, HB1.out⟩
  go_wp2_with fail
  refine C.mono ?_
  rintro e w2 ⟨rfl, rfl⟩
  by_cases h4 : x ≤ y
  case neg =>
    have HR := Lib.hid (show f = false by rw [HF.out]; simp [h4])
    go_wp2
    go_ret
    exact ⟨by rw [HR.out]; rfl, HB1.out⟩
  by_cases h5 : y ≤ z
  case neg =>
    have HR := Lib.hid (show f = false by rw [HF.out]; simp [h5])
    go_wp2
    go_ret
    exact ⟨by rw [HR.out]; rfl, HB1.out⟩
  have HR := Lib.hid (show decide (z ≤ 4096) = f by rw [HF.out]; simp [h1, h2, h3, h4, h5])
  go_wp2
  go_ret
  exact ⟨congrArg (fun t => Ending.returned (Value.bool t)) HR.out, HB1.out⟩

theorem ret_nat {a : Int} {b : Nat} (h : a = (b : Int)) : Ending.returned (Value.int IntKind.i64 a) = Ending.returned (Value.int IntKind.i64 (b : Nat)) := by rw [h]
theorem byteAt (s : List UInt8) (i : Nat) (h : i < s.length) : ((({ data := s.toArray } : ByteArray)[i]'h).toNat : Nat) = s[i].toNat := rfl
theorem take_drop_at {s : List UInt8} {z i : Nat} (h : i < (s.take z).length) : (s.take z)[i] = s[i]'(by rw [List.length_take] at h; omega) := List.getElem_take ..
/-- The middle of the text, from place i on. -/
theorem goC_step {k x i z : Nat} {h : Int} {s : List UInt8} (_ : x ≤ i) (hi : i < s.length) (hz : i < z) :
    goC k i h ((s.take z).drop i) = if cutB k i (rollG h s[i]) = true then i + 1 else goC k (i + 1) (rollG h s[i]) ((s.take z).drop (i + 1)) := by
  have hl : i < (s.take z).length := by rw [List.length_take]; omega
  have := goC_at (k := k) (i := i) (h := h) hl
  rwa [List.getElem_take] at this
theorem goC_stop {k i z : Nat} {h : Int} {s : List UInt8} (hi : min s.length z ≤ i) : goC k i h ((s.take z).drop i) = i :=
  goC_end (by rw [List.length_take]; omega)

set_option maxHeartbeats 4000000 in
set_option maxRecDepth 100000 in
theorem r07cut_walk (x k y z : Nat) (s : List UInt8) (w : World) (hf : FitC x k z) (hpk : 2 ^ k = y) (hs : s.length ≤ 1100000) :
    Calls Tryz.prog 112 #[PrmV x y z, S s] w fun e w' => e = .returned (.int .i64 (cutC x k z s : Nat)) ∧ Below w.heap.size w w' := by
  obtain ⟨w1, hw1, HB1, c0, c1, c2⟩ : ∃ w1, w1 = w.alloc (.cells #[.int .i64 (x : Nat), .int .i64 (y : Nat), .int .i64 (z : Nat)] 51) ∧ Hid (Below w.heap.size w w1) ∧ w1.cell? ⟨w.heap.size, 0, none⟩ = some (.int .i64 (x : Nat)) ∧ w1.cell? ⟨w.heap.size, 1, none⟩ = some (.int .i64 (y : Nat)) ∧ w1.cell? ⟨w.heap.size, 2, none⟩ = some (.int .i64 (z : Nat)) :=
    ⟨_, rfl, Lib.hid ((Below.refl _ _).alloc (Nat.le_refl _) _), cell_new _ _ _ 0 rfl, cell_new _ _ _ 1 rfl, cell_new _ _ _ 2 rfl⟩
  have h1 := hf.k1
  have h2 := hf.k12
  have h3 := hf.xy
  have h4 := hf.yz
  have CP := r07power_walk ((2 ^ k : Nat) : Int) w1
  rw [powI_pow (by omega)] at CP
  rw [hpk] at CP h3 h4
  have CB := fun (h : Int) (m : Nat) => r07blank_walk h m w1
  have CR := fun (h : Int) (b : UInt8) => r06roll_walk h b w1
  have HC := Lib.hid (show cutC x k z s = if s.length ≤ x then s.length else goC k x 0 ((s.take z).drop x) from rfl)
  have HST := Lib.hid (fun (i : Nat) (h : Int) (hx : x ≤ i) (hi : i < s.length) (hz : i < z) => goC_step (k := k) (h := h) hx hi hz)
  have HSP := Lib.hid (fun (i : Nat) (h : Int) (hi : min s.length z ≤ i) => goC_stop (k := k) (h := h) hi)
  have HLO := Lib.hid (fun (i : Nat) (h : Int) (hi : i < y) => show cutB k i h = decide (h < 2 ^ (64 - (k + 1))) by unfold cutB; rw [hpk, if_pos hi, show 63 - k = 64 - (k + 1) by omega])
  have HHI := Lib.hid (fun (i : Nat) (h : Int) (hi : ¬ i < y) => show cutB k i h = decide (h < 2 ^ (64 - (k - 1))) by unfold cutB; rw [hpk, if_neg hi, show 65 - k = 64 - (k - 1) by omega])
  generalize cutC x k z s = cc at *
  clear hpk
  go_enter Tryz.func112, Tryz.ntmps112
  go_upto_region 1 with fail
  rw [← hw1]
  clear hw1
  by_cases g1 : s.length ≤ x
  · have HCC := Lib.hid (show cc = s.length by rw [HC.out, if_pos g1])
    have g1' : (s.length : Int) ≤ (x : Int) := by omega
    go_wp2
    go_ret
    exact ⟨by rw [HCC.out]; rfl, HB1.out⟩
  · have HCC := Lib.hid (show cc = goC k x 0 ((s.take z).drop x) by rw [HC.out, if_neg g1])
    have g1' : ¬ (s.length : Int) ≤ (x : Int) := by omega
    have hmin : min (s.length : Int) (z : Int) = ((min s.length z : Nat) : Int) := by omega
    go_wp2_with fail
    refine CP.mono ?_
    rintro e w2 ⟨rfl, rfl⟩
    go_upto_region 4 with fail
    go_cut [6] from 19 (fun v w' => w2 = w' ∧ v = .int .i64 ((min s.length z : Nat) : Int))
    case first =>
      by_cases gm : z < s.length
      · have gm' : (z : Int) < (s.length : Int) := by omega
        clear hmin
        go_wp2
        go_meet
        case rel => exact ⟨rfl, congrArg (Value.int .i64) (by omega)⟩
      · have gm' : ¬ (z : Int) < (s.length : Int) := by omega
        clear hmin
        go_wp2
        go_meet
        case rel => exact ⟨rfl, congrArg (Value.int .i64) (by omega)⟩
    case rest =>
    obtain ⟨rfl, rfl⟩ := hcut
    clear hmin CP
    go_wp2
    go_loopw [7, 8] (fun hv i wr => wr = w2 ∧ ∃ (j : Nat) (h : Int), x ≤ j ∧ j ≤ min s.length z ∧ 0 ≤ h ∧ h < 18446744073709551616 ∧ i = .int .i64 j ∧ hv = .int .u64 h ∧ cc = goC k j h ((s.take z).drop j)) (fun _ i _ => s.length - (intOf i).toNat)
    case atStart => exact ⟨rfl, x, 0, Nat.le_refl _, by omega, by omega, by omega, rfl, rfl, HCC.out⟩
    case round =>
      obtain ⟨rfl, j, h, hj, hjm, hh0, hh1, rfl, rfl, hcc⟩ := hrel
      have HCJ := Lib.hid hcc
      clear hcc
      by_cases g2 : j < min s.length z
      · have g2' : (j : Int) < ((min s.length z : Nat) : Int) := by omega
        have hjs : j < s.length := by omega
        have HS := Lib.hid (HCJ.out.trans (HST.out j h hj hjs (by omega)))
        have CR2 := CR h s[j]
        have HRG := Lib.hid (rollG_range h s[j])
        clear CR HCJ
        generalize rollG h s[j] = h' at *
        have CBL := CB h' (k + 1) HRG.out.1 HRG.out.2 (by omega)
        have CBH := CB h' (k - 1) HRG.out.1 HRG.out.2 (by omega)
        rw [show ((k - 1 : Nat) : Int) = (k : Int) - 1 by omega] at CBH
        rw [show ((k + 1 : Nat) : Int) = (k : Int) + 1 by omega] at CBL
        clear CB
        go_wp2_with fail
        refine CR2.mono ?_
        rintro e w3 ⟨rfl, rfl⟩
        clear CR2
        by_cases g3 : j < y
        · have g3' : (j : Int) < (y : Int) := by omega
          have HB := Lib.hid (HLO.out j h' g3)
          clear CBH
          cases hd : decide (h' < 2 ^ (64 - (k + 1))) with
          | true =>
            rw [hd] at CBL HB
            have HE := Lib.hid (HS.out.trans (if_pos HB.out))
            clear hd
            go_wp2_with fail
            refine CBL.mono ?_
            rintro e w4 ⟨rfl, rfl⟩
            go_wp2
            go_ret
            exact ⟨by rw [HE.out]; exact ret_nat (by omega), HB1.out⟩
          | false =>
            rw [hd] at CBL HB
            have HE := Lib.hid (HS.out.trans (if_neg (by rw [HB.out]; decide)))
            clear hd
            go_wp2_with fail
            refine CBL.mono ?_
            rintro e w4 ⟨rfl, rfl⟩
            go_wp2
            go_roundw
            case rel => exact ⟨trivial, j + 1, h', by omega, by omega, HRG.out.1, HRG.out.2, by go_num, rfl, HE.out⟩
            case measure => simp [intOf]; omega
        · have g3' : ¬ (j : Int) < (y : Int) := by omega
          have HB := Lib.hid (HHI.out j h' g3)
          clear CBL
          cases hd : decide (h' < 2 ^ (64 - (k - 1))) with
          | true =>
            rw [hd] at CBH HB
            have HE := Lib.hid (HS.out.trans (if_pos HB.out))
            clear hd
            go_wp2_with fail
            refine CBH.mono ?_
            rintro e w4 ⟨rfl, rfl⟩
            go_wp2
            go_ret
            exact ⟨by rw [HE.out]; exact ret_nat (by omega), HB1.out⟩
          | false =>
            rw [hd] at CBH HB
            have HE := Lib.hid (HS.out.trans (if_neg (by rw [HB.out]; decide)))
            clear hd
            go_wp2_with fail
            refine CBH.mono ?_
            rintro e w4 ⟨rfl, rfl⟩
            go_wp2
            go_roundw
            case rel => exact ⟨trivial, j + 1, h', by omega, by omega, HRG.out.1, HRG.out.2, by go_num, rfl, HE.out⟩
            case measure => simp [intOf]; omega
      · have g2' : ¬ (j : Int) < ((min s.length z : Nat) : Int) := by omega
        have HS := Lib.hid (show ((min s.length z : Nat) : Int) = (cc : Nat) by rw [HCJ.out.trans (HSP.out j h (by omega))]; have := hjm; omega)
        go_wp2
        go_ret
        exact ⟨congrArg (fun t => Ending.returned (Value.int IntKind.i64 t)) HS.out, HB1.out⟩

/-- A text's length, of its value. -/
def lenV : Value → Nat | .string b => b.size | _ => 0
theorem lenV_S (r : List UInt8) : lenV (S r) = r.length := by simp [lenV, ByteArray.size]
theorem cut_lo (r : List UInt8) (n : Nat) : cutL r 0 n = r.take n := by simp [cutL]
theorem cut_hi (r : List UInt8) (n : Nat) : cutL r n r.length = r.drop n := by simp [cutL]

set_option maxHeartbeats 4000000 in
set_option maxRecDepth 100000 in
theorem r07pieces_walk (x k y z : Nat) (s : List UInt8) (w : World) (hf : FitC x k z) (hpk : 2 ^ k = y) (hs : s.length ≤ 1100000) :
    Calls Tryz.prog 89 #[PrmV x y z, S s] w fun e w' => ∃ v, e = .returned v ∧ w'.ownsRow (w.heap.size + 1) 9 1 v (piecesC x k z s).length ((piecesC x k z s).map S) ∧ Below w.heap.size w w' := by
  obtain ⟨i0, hi, hz0, hz1, hz2⟩ := info_parts infoStr
  obtain ⟨w1, hw1, HB1, hc⟩ : ∃ w1, w1 = w.alloc (.cells #[.int .i64 (x : Nat), .int .i64 (y : Nat), .int .i64 (z : Nat)] 51) ∧ Below w.heap.size w w1 ∧ w1.heap[w.heap.size]? = some (.cells #[.int .i64 (x : Nat), .int .i64 (y : Nat), .int .i64 (z : Nat)] 51 (0, 0)) :=
    ⟨_, rfl, (Below.refl _ _).alloc (Nat.le_refl _) _, heap_alloc_new _ _⟩
  have HF := Lib.hid hf
  have HSZ := Lib.hid (show w1.heap.size = w.heap.size + 1 by rw [hw1]; simp)
  have HS1 := Lib.hid (heap_lt hc)
  have HCC := Lib.hid hc
  have CC := fun (r : List UInt8) (W : World) (h : r.length ≤ 1100000) => r07cut_walk x k y z r W hf hpk h
  clear hc hf
  clear hpk
  go_enter Tryz.func89, Tryz.ntmps89
  go_upto_region 2 with fail
  rw [← hw1]
  clear hw1
  go_loopw [1, 5, 6] (fun sv v _ wr => ∃ (r : List UInt8) (dn : List (List UInt8)), sv = S r ∧ wr.ownsRow (w.heap.size + 1) 9 1 v dn.length (dn.map S) ∧ Below w1.heap.size w1 wr ∧ Hid (piecesC x k z s = dn ++ piecesC x k z r) ∧ r.length + dn.length ≤ s.length) (fun sv _ _ _ => lenV sv)
  case atStart => exact ⟨s, [], rfl, World.ownsRow_nil _ _ _ _, Below.refl _ _, Lib.hid rfl, by simp⟩
  case round =>
    obtain ⟨r, dn, rfl, hown, hB, HP, hl⟩ := hrel
    have HB := Lib.hid hB
    obtain ⟨⟨c0, c1, c2⟩, -⟩ : (wr.cell? ⟨w.heap.size, 0, none⟩ = some (.int .i64 (x : Nat)) ∧ wr.cell? ⟨w.heap.size, 1, none⟩ = some (.int .i64 (y : Nat)) ∧ wr.cell? ⟨w.heap.size, 2, none⟩ = some (.int .i64 (z : Nat))) ∧ True :=
      ⟨⟨heap_cell ((hB.block _ HS1.out).trans HCC.out) (j := 0) rfl, heap_cell ((hB.block _ HS1.out).trans HCC.out) (j := 1) rfl, heap_cell ((hB.block _ HS1.out).trans HCC.out) (j := 2) rfl⟩, trivial⟩
    by_cases hr : r = []
    · subst hr
      have HR := Lib.hid hown
      go_wp2
      go_ret
      exact ⟨_, rfl, by rw [HP.out, piecesC_nil, List.append_nil]; exact HR.out, HB1.trans (HB.out.mono HB1.size)⟩
    · have hne : (r == []) = false := by rw [beq_eq_false_iff_ne]; exact hr
      have C := CC r wr (by omega)
      have HCP := Lib.hid (cutC_pos HF.out hr)
      have HCL := Lib.hid (cutC_le (x := x) (k := k) (z := z) (s := r))
      have HPC := Lib.hid (piecesC_cons HF.out hr)
      have hle : cutC x k z r ≤ r.length := cutC_le
      have HOWN := Lib.hid hown
      clear CC hB hown hr
      generalize cutC x k z r = n at *
      go_wp2_with fail
      refine C.mono ?_
      rintro e w2 ⟨rfl, hb2⟩
      have hown2 := own_on HOWN.out hb2
      have HB2 := Lib.hid (below_chain HB.out hb2 HB.out.size)
      have hn1 : (n : Int) ≤ (r.length : Int) := by omega
      clear C hb2 c0 c1 c2
      go_wp2_with (at_builtin; refine wpList_append_own _ rfl _ _ 23 rfl (w.heap.size + 1) 9 i0 (.string ⟨#[]⟩) 1 16 Tryz.underlying23 hi hz0 hz1 hz2 rfl (by decide) _ _ _ rfl (hown2.alloc _) ⟨w2.heap.size, 0, none⟩ 1 1 [.string (({ data := r.toArray } : ByteArray).extract 0 n)] rfl rfl ?c1 ?c2 ?c3 ?c4 ?c5 ?_)
      case c1 => exact new_cell _ _ _
      case c2 => intro u hu; simp at hu; subst hu; rfl
      case c3 => unfold maxLen; omega
      case c4 => omega
      case c5 => simp; have := HB2.out.size; have := HS1.out; omega
      intro v' w3 hown' hgrow _
      have HB3 := Lib.hid ((HB2.out.alloc HB2.out.size _).grown hgrow (by simp; have := HB2.out.size; omega) (fun j hj => by have := (hown2.lt j hj).1; have := HSZ.out; omega))
      have HO := Lib.hid hown'
      clear hown' hgrow hown2
      go_wp2
      go_roundw
      case rel =>
        refine ⟨r.drop n, dn ++ [r.take n], ?_, ?_, HB3.out, Lib.hid (by rw [HP.out, HPC.out, List.append_assoc]; rfl), by have := HCP.out; simp; omega⟩
        · rw [← cut_hi]; exact S_extract _ _ _
        · have := HO.out
          rw [S_extract, cut_lo] at this
          simpa using this
      case measure =>
        have h7 := S_extract r n r.length
        rw [cut_hi] at h7
        have := HCP.out
        refine Nat.lt_of_le_of_lt (Nat.le_of_eq (congrArg lenV h7)) ?_
        rw [lenV_S, lenV_S, List.length_drop]
        omega
end Go.Proofs.YtaompdnnkfmjhaaGreatDoor
