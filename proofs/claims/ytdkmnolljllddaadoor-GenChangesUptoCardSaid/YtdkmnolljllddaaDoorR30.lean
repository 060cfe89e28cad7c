/- The reference's numbers, texts and choices by a seed. -/
import Derived.Test.YtdkmnolljllddaaDoorGenPlain
import Derived.Test.YtdkmnolljllddaaDoorCellsU
import Derived.Test.YtdkmnolljllddaaDoorItB
import Derived.Deep.CutRange
namespace Go.Proofs.YtdkmnolljllddaaDoor
open Go.RowKit

theorem infoU64 : (Tryd.prog.info? 36).map (fun i => (i.zero, i.size, i.bytes)) = some (some (.int .u64 0), 1, 8) := by kernel_rfl
abbrev numC (x : Int) : List Value := [.int .u64 x]
abbrev NumRow := Row numC
theorem num_flat (l : List Int) : l.flatMap numC = l.map (fun x => Value.int .u64 x) := by induction l with
  | nil => rfl
  | cons x l ih => simp [ih]

set_option maxHeartbeats 1100000 in
set_option maxRecDepth 100000 in
theorem rnumber_walk (s k : Int) (w : World) :
    Calls Tryd.prog 20 #[.int .u64 s, .int .i64 k] w fun e w' => e = .returned (.int .u64 (numberG s k)) ∧ Below w.heap.size w w' := by
  have HD := Lib.hid (show numberG s k = if k < 1 ∨ 100000 < k then 0 else outG (iterG k.toNat s) from rfl)
  generalize numberG s k = res at *
  by_cases h1 : k < 1
  · have HF := Lib.hid (HD.out.trans (if_pos (.inl h1)))
    go_enter Tryd.func20, Tryd.ntmps20
    go_wp2
    go_ret
    exact ⟨by rw [HF.out]; rfl, Below.refl _ _⟩
  by_cases h2 : 100000 < k
  · have HF := Lib.hid (HD.out.trans (if_pos (.inr h2)))
    go_enter Tryd.func20, Tryd.ntmps20
    go_wp2
    go_ret
    exact ⟨by rw [HF.out]; rfl, Below.refl _ _⟩
  have HF := Lib.hid (HD.out.trans (if_neg (by omega)))
  obtain ⟨K, rfl⟩ : ∃ K : Nat, k = (K : Int) := ⟨k.toNat, by omega⟩
  clear HD
  go_enter Tryd.func20, Tryd.ntmps20
  go_wp2
  go_loopw [0, 5] (fun sv i wr => ∃ j : Nat, j ≤ K ∧ i = .int .i64 j ∧ sv = .int .u64 (iterG j s) ∧ w = wr) (fun _ i _ => K - (intOf i).toNat)
  case atStart => exact ⟨0, Nat.zero_le _, rfl, rfl, rfl⟩
  case round =>
    obtain ⟨j, hj, rfl, rfl, rfl⟩ := hrel
    have HN := Lib.hid (iterG_last j s)
    generalize iterG (j + 1) s = s2 at *
    by_cases hjk : j < K
    · have hjk' : (j : Int) < (K : Int) := by omega
      go_wp2
      go_roundw
      case rel => exact ⟨j + 1, by omega, by go_num, by rw [iterG_last]; rfl, by trivial⟩
      case measure => simp [intOf]; omega
    · have hjk' : ¬ (j : Int) < (K : Int) := by omega
      obtain rfl : j = K := by omega
      go_wp2
      go_ret
      exact ⟨by rw [HF.out]; rfl, Below.refl _ _⟩

set_option maxHeartbeats 1100000 in
set_option maxRecDepth 100000 in
theorem rnums_walk (s n : Int) (w : World) (hn : n ≤ 1100000) :
    Calls Tryd.prog 49 #[.int .u64 s, .int .i64 n] w fun e w' => ∃ v', e = .returned v' ∧ NumRow w' v' (numsG n.toNat s) ∧ Below w.heap.size w w' := by
  obtain ⟨i0, hi, hz0, hz1, hz2⟩ := info_parts infoU64
  obtain ⟨K, hK⟩ : ∃ K : Nat, n.toNat = K := ⟨_, rfl⟩
  rw [hK]
  go_enter Tryd.func49, Tryd.ntmps49
  go_wp2
  go_loopw [0, 5, 6] (fun sv v i wr => ∃ j : Nat, j ≤ K ∧ i = .int .i64 j ∧ sv = .int .u64 (iterG j s) ∧ wr.ownsRow w.heap.size 36 1 v j ((numsG j s).flatMap numC) ∧ Below w.heap.size w wr) (fun _ _ i _ => K - (intOf i).toNat)
  case atStart => exact ⟨0, Nat.zero_le _, rfl, rfl, World.ownsRow_nil _ _ _ _, Below.refl _ _⟩
  case round =>
    obtain ⟨j, hj, rfl, rfl, hown, hB⟩ := hrel
    have HN := Lib.hid (show iterG (j + 1) s = IntKind.u64.wrap (IntKind.u64.wrap (iterG j s * 6364136223846793005) + 1442695040888963407) from iterG_last j s)
    have HL := Lib.hid (show (numsG (j + 1) s).flatMap numC = (numsG j s).flatMap numC ++ [.int .u64 (outG (iterG (j + 1) s))] by rw [numsG_last, List.flatMap_append]; rfl)
    have hsz := hB.size
    by_cases hjk : j < K
    · have hjk' : (j : Int) < n := by omega
      generalize (numsG j s).flatMap numC = ou at *
      have hN := HN.out
      go_wp2_with (at_builtin; refine wpList_append_own _ rfl _ _ 72 rfl w.heap.size 36 i0 (.int .u64 0) 1 8 Tryd.underlying72 hi hz0 hz1 hz2 rfl (by decide) _ _ _ rfl (hown.alloc _) ⟨wr.heap.size, 0, none⟩ 1 1 [.int .u64 (outG (iterG (j + 1) s))] rfl rfl (by rw [outG, hN]; exact new_cell _ _ _) (by intro u hu; simp at hu; subst hu; rfl) (by unfold maxLen; omega) (by omega) (by simp; omega) ?_)
      intro v' w1 hown' hgrow _
      have hB1 : Below w.heap.size w w1 := (hB.alloc hsz _).grown hgrow (by simp; omega) (fun j hj => (hown.lt j hj).1)
      clear hgrow hown hB
      go_wp2
      go_roundw
      case rel => exact ⟨j + 1, by omega, by go_num, by rw [HN.out], by rw [HL.out, HN.out]; exact hown', hB1⟩
      case measure => simp [intOf]; omega
    · have hjk' : ¬ (j : Int) < n := by omega
      obtain rfl : j = K := by omega
      have HO := Lib.hid hown
      clear hown
      go_wp2
      go_ret
      exact ⟨_, rfl, Row.of_ownsK (K := 1) (f := numC) (fun _ => rfl) (by rw [numsG_len]; exact HO.out), hB⟩

set_option maxHeartbeats 1100000 in
set_option maxRecDepth 100000 in
theorem rtext_walk (s n : Int) (w : World) :
    Calls Tryd.prog 22 #[.int .u64 s, .int .i64 n] w fun e w' => e = .returned (S (textG s n)) ∧ Below w.heap.size w w' := by
  obtain ⟨i0, hi, hz0, hz1, hz2⟩ := info_parts infoByte
  obtain ⟨m, hm⟩ : ∃ m : Nat, (min n 32768).toNat = m := ⟨_, rfl⟩
  have CN1 := fun h : (32768 : Int) < n => (show (32768 : Int).toNat = m by omega) ▸ rnums_walk s 32768 w (by omega)
  have CN2 := fun h : n ≤ 32768 => (show n.toNat = m by omega) ▸ rnums_walk s n w (by omega)
  have hml : m ≤ 32768 := by omega
  have HT := Lib.hid (show textG s n = (numsG m s).map charG by rw [← hm]; rfl)
  have hlen := numsG_len m s
  have hmem : ∀ x ∈ numsG m s, 0 ≤ x ∧ x < 2147483648 := fun x hx => numsG_mem hx
  have hll : (numsG m s).length ≤ 32768 := by omega
  clear hlen hm hml
  generalize numsG m s = l at *
  generalize textG s n = res at *
  have HMEM := Lib.hid hmem
  clear hmem
  go_enter Tryd.func22, Tryd.ntmps22
  go_upto_region 1 with fail
  go_cut [5] from 8 (fun v w1 => NumRow w1 v l ∧ Below w.heap.size w w1)
  case first =>
    by_cases h : (32768 : Int) < n
    · have C := CN1 h
      go_wp2_with fail
      refine C.mono ?_
      rintro e w1 ⟨v, rfl, hrow, hb1⟩
      go_wp2
      go_meet
      case rel => exact ⟨hrow, hb1⟩
    · have C := CN2 (by omega)
      go_wp2_with fail
      refine C.mono ?_
      rintro e w1 ⟨v, rfl, hrow, hb1⟩
      go_wp2
      go_meet
      case rel => exact ⟨hrow, hb1⟩
  case rest =>
  obtain ⟨hrow, hb1⟩ := hcut
  clear CN1 CN2
  obtain ⟨a, c, rfl, hc, hm, hx⟩ := hrow
  have HX := Lib.hid hx
  clear hx
  go_wp2
  go_loopw [6, 7] (fun v i wr => ∃ j : Nat, j ≤ l.length ∧ i = .int .i64 j ∧ wr.ownsRow wc.heap.size 5 1 v j (Lib.byteCells ((l.take j).map charG)) ∧ Below wc.heap.size wc wr) (fun _ i _ => l.length - (intOf i).toNat)
  case atStart => exact ⟨0, Nat.zero_le _, rfl, by simpa [Lib.byteCells] using World.ownsRow_nil _ _ _ _, Below.refl _ _⟩
  case round =>
    obtain ⟨j, hj, rfl, hown, hB⟩ := hrel
    have hsz := hB.size
    by_cases hjk : j < l.length
    · have hjk' : (j : Int) < (l.length : Int) := by omega
      have hx := HX.out
      rcases hx with hx | ⟨b, o, rfl, hx⟩
      · exfalso; rw [hx] at hjk; simp at hjk
      have hc1 := hx j l[j] (by simp [hjk]) 0 (.int .u64 l[j]) rfl
      simp only [List.length_cons, List.length_nil, Nat.add_zero, Nat.zero_add, Nat.mul_one] at hc1
      replace hc1 := cell_below hB hc1
      have HL := Lib.hid (show Lib.byteCells ((l.take (j + 1)).map charG) = Lib.byteCells ((l.take j).map charG) ++ [.int .u8 ((charG l[j]).toNat : Nat)] by
        rw [List.take_succ_eq_append_getElem hjk, List.map_append]; simp [Lib.byteCells])
      obtain ⟨g0, g1⟩ := HMEM.out l[j] (List.getElem_mem hjk)
      have HC := charG_nat g0
      generalize Lib.byteCells ((l.take j).map charG) = ou at *
      clear hx
      generalize l[j] = x at *
      have hw : IntKind.u64.wrap (97 + x % 8) = 97 + x % 8 := by simp only [IntKind.wrap, IntKind.bits, IntKind.signed]; simp; omega
      have hw2 : IntKind.u8.wrap (97 + x % 8) = 97 + x % 8 := by simp only [IntKind.wrap, IntKind.bits, IntKind.signed]; simp; omega
      go_wp2_with (at_builtin; refine wpList_append_own _ rfl _ _ 74 rfl wc.heap.size 5 i0 (.int .u8 0) 1 1 Tryd.underlying74 hi hz0 hz1 hz2 rfl (by decide) _ _ _ rfl (hown.alloc _) ⟨wr.heap.size, 0, none⟩ 1 1 [.int .u8 (97 + x % 8)] rfl rfl (new_cell _ _ _) (by intro u hu; simp at hu; subst hu; rfl) (by unfold maxLen; omega) (by omega) (by simp; omega) ?_)
      intro v' w2 hown' hgrow _
      have hB1 : Below wc.heap.size wc w2 := (hB.alloc hsz _).grown hgrow (by simp; omega) (fun j hj => (hown.lt j hj).1)
      clear hgrow hown hB
      go_wp2
      go_roundw
      case rel => exact ⟨j + 1, by omega, by go_num, by rw [HL.out, HC]; exact hown', hB1⟩
      case measure => simp [intOf]; omega
    · have hjk' : ¬ (j : Int) < (l.length : Int) := by omega
      obtain rfl : j = l.length := by omega
      rw [List.take_of_length_le (Nat.le_refl _)] at hown
      have hbk := bytes_back (l := l.map charG) (by rw [List.length_map]; exact hown)
      clear hown
      go_wp2
      go_ret
      exact ⟨by rw [HT.out]; rfl, below_chain hb1 hB hb1.size⟩

set_option maxHeartbeats 1100000 in
set_option maxRecDepth 100000 in
theorem rchoices_walk (s n : Int) (w : World) :
    Calls Tryd.prog 24 #[.int .u64 s, .int .i64 n] w fun e w' => e = .returned (S (choiceG s n)) ∧ Below w.heap.size w w' := by
  obtain ⟨i0, hi, hz0, hz1, hz2⟩ := info_parts infoByte
  obtain ⟨m, hm⟩ : ∃ m : Nat, (min n 4096).toNat = m := ⟨_, rfl⟩
  have CN1 := fun h : (4096 : Int) < n => (show (4096 : Int).toNat = m by omega) ▸ rnums_walk s 4096 w (by omega)
  have CN2 := fun h : n ≤ 4096 => (show n.toNat = m by omega) ▸ rnums_walk s n w (by omega)
  have hml : m ≤ 4096 := by omega
  have HT := Lib.hid (show choiceG s n = (numsG m s).map byteG by rw [← hm]; rfl)
  have hlen := numsG_len m s
  have hmem : ∀ x ∈ numsG m s, 0 ≤ x ∧ x < 2147483648 := fun x hx => numsG_mem hx
  have hll : (numsG m s).length ≤ 4096 := by omega
  clear hlen hm hml
  generalize numsG m s = l at *
  generalize choiceG s n = res at *
  have HMEM := Lib.hid hmem
  clear hmem
  go_enter Tryd.func24, Tryd.ntmps24
  go_upto_region 1 with fail
  go_cut [5] from 8 (fun v w1 => NumRow w1 v l ∧ Below w.heap.size w w1)
  case first =>
    by_cases h : (4096 : Int) < n
    · have C := CN1 h
      go_wp2_with fail
      refine C.mono ?_
      rintro e w1 ⟨v, rfl, hrow, hb1⟩
      go_wp2
      go_meet
      case rel => exact ⟨hrow, hb1⟩
    · have C := CN2 (by omega)
      go_wp2_with fail
      refine C.mono ?_
      rintro e w1 ⟨v, rfl, hrow, hb1⟩
      go_wp2
      go_meet
      case rel => exact ⟨hrow, hb1⟩
  case rest =>
  obtain ⟨hrow, hb1⟩ := hcut
  clear CN1 CN2
  obtain ⟨a, c, rfl, hc, hm, hx⟩ := hrow
  have HX := Lib.hid hx
  clear hx
  go_wp2
  go_loopw [6, 7] (fun v i wr => ∃ j : Nat, j ≤ l.length ∧ i = .int .i64 j ∧ wr.ownsRow wc.heap.size 5 1 v j (Lib.byteCells ((l.take j).map byteG)) ∧ Below wc.heap.size wc wr) (fun _ i _ => l.length - (intOf i).toNat)
  case atStart => exact ⟨0, Nat.zero_le _, rfl, by simpa [Lib.byteCells] using World.ownsRow_nil _ _ _ _, Below.refl _ _⟩
  case round =>
    obtain ⟨j, hj, rfl, hown, hB⟩ := hrel
    have hsz := hB.size
    by_cases hjk : j < l.length
    · have hjk' : (j : Int) < (l.length : Int) := by omega
      have hx := HX.out
      rcases hx with hx | ⟨b, o, rfl, hx⟩
      · exfalso; rw [hx] at hjk; simp at hjk
      have hc1 := hx j l[j] (by simp [hjk]) 0 (.int .u64 l[j]) rfl
      simp only [List.length_cons, List.length_nil, Nat.add_zero, Nat.zero_add, Nat.mul_one] at hc1
      replace hc1 := cell_below hB hc1
      have HL := Lib.hid (show Lib.byteCells ((l.take (j + 1)).map byteG) = Lib.byteCells ((l.take j).map byteG) ++ [.int .u8 ((byteG l[j]).toNat : Nat)] by
        rw [List.take_succ_eq_append_getElem hjk, List.map_append]; simp [Lib.byteCells])
      obtain ⟨g0, g1⟩ := HMEM.out l[j] (List.getElem_mem hjk)
      have HC := byteG_nat g0
      generalize Lib.byteCells ((l.take j).map byteG) = ou at *
      clear hx
      generalize l[j] = x at *
      have hw2 : IntKind.u8.wrap (x % 256) = x % 256 := by simp only [IntKind.wrap, IntKind.bits, IntKind.signed]; simp
      go_wp2_with (at_builtin; refine wpList_append_own _ rfl _ _ 74 rfl wc.heap.size 5 i0 (.int .u8 0) 1 1 Tryd.underlying74 hi hz0 hz1 hz2 rfl (by decide) _ _ _ rfl (hown.alloc _) ⟨wr.heap.size, 0, none⟩ 1 1 [.int .u8 (x % 256)] rfl rfl (new_cell _ _ _) (by intro u hu; simp at hu; subst hu; rfl) (by unfold maxLen; omega) (by omega) (by simp; omega) ?_)
      intro v' w2 hown' hgrow _
      have hB1 : Below wc.heap.size wc w2 := (hB.alloc hsz _).grown hgrow (by simp; omega) (fun j hj => (hown.lt j hj).1)
      clear hgrow hown hB
      go_wp2
      go_roundw
      case rel => exact ⟨j + 1, by omega, by go_num, by rw [HL.out, HC]; exact hown', hB1⟩
      case measure => simp [intOf]; omega
    · have hjk' : ¬ (j : Int) < (l.length : Int) := by omega
      obtain rfl : j = l.length := by omega
      rw [List.take_of_length_le (Nat.le_refl _)] at hown
      have hbk := bytes_back (l := l.map byteG) (by rw [List.length_map]; exact hown)
      clear hown
      go_wp2
      go_ret
      exact ⟨by rw [HT.out]; rfl, below_chain hb1 hB hb1.size⟩
end Go.Proofs.YtdkmnolljllddaaDoor
