/- The reference's answers on trees that are kept. -/
import Derived.Test.YtmlahfmcccpgjaaRootsPlain
import Derived.Test.YtmlahfmcccpgjaaRName
namespace Go.Proofs.Ytmlahfmcccpgjaa
open Go.RowKit

set_option maxHeartbeats 1000000 in
set_option maxRecDepth 100000 in
theorem r18find_walk (v : Value) (l : List Snp) (n : List UInt8) (w : World) (hr : SnpRow w v l) (hcnt : l.length ≤ 1000000) :
    Calls Try.prog 23 #[v, S n] w fun e w' => e = .returned (.tuple #[S (rootOf (findR l n)), .bool (findR l n).isSome]) ∧ Below w.heap.size w w' := by
  obtain ⟨a, c, rfl, hc, hm, hx⟩ := hr
  have HX := Lib.hid hx
  clear hx
  go_enter Try.func23, Try.ntmps23
  go_wp2
  go_loopw [6] (fun i wr => ∃ k : Nat, k ≤ l.length ∧ i = .int .i64 k ∧ findR (l.take k) n = none ∧ Below w.heap.size w wr) (fun i _ => l.length - (intOf i).toNat)
  case atStart => exact ⟨0, Nat.zero_le _, rfl, rfl, Below.refl _ _⟩
  case round =>
    obtain ⟨k, hk, rfl, ht, hB⟩ := hrel
    have HT := Lib.hid ht
    have HB := Lib.hid hB
    clear ht
    by_cases h1 : k < l.length
    · have hx := HX.out
      rcases hx with hx | ⟨b, o, rfl, hx⟩
      · exfalso; rw [hx] at h1; simp at h1
      obtain ⟨hx1, hx2⟩ := snp_cells hx h1
      have hc1 := cell_below hB hx1
      have hc2 := cell_below hB hx2
      have HE := Lib.hid (fun he : l[k].1 = n => findR_at h1 he HT.out)
      have HN := Lib.hid (fun he : l[k].1 ≠ n => findR_step h1 he HT.out)
      clear hx hx1 hx2 hB
      generalize l[k] = y at *
      obtain ⟨p, q⟩ := y
      have h1' : (k : Int) < (l.length : Int) := by omega
      by_cases hpn : p = n
      · subst hpn
        have HS := Lib.hid (HE.out rfl)
        have hpp : (p == p) = true := by simp
        go_wp2
        go_ret2
        exact ⟨by rw [HS.out]; rfl, HB.out⟩
      · have HS := Lib.hid (HN.out hpn)
        have hpp : (p == n) = false := by rw [beq_eq_false_iff_ne]; exact hpn
        go_wp2
        go_roundw
        case rel => exact ⟨k + 1, by omega, by go_num, HS.out, HB.out⟩
        case measure => simp [intOf]; omega
    · have h1' : ¬ (k : Int) < (l.length : Int) := by omega
      have HK := Lib.hid (show findR l n = none by rw [← HT.out, List.take_of_length_le (by omega)])
      go_wp2
      go_ret2
      exact ⟨by rw [HK.out]; rfl, HB.out⟩

set_option maxHeartbeats 1000000 in
set_option maxRecDepth 100000 in
theorem r18keys_walk (v : Value) (l : List Snp) (w : World) (hr : SnpRow w v l) (hcnt : l.length ≤ 1000000) :
    Calls Try.prog 26 #[v] w fun e w' => ∃ v', e = .returned v' ∧ StrRow w' v' (keysR l) ∧ Below w.heap.size w w' := by
  obtain ⟨a, c, rfl, hc, hm, hx⟩ := hr
  have HX := Lib.hid hx
  clear hx
  obtain ⟨i0, hi, hz0, hz1, hz2⟩ := info_parts infoStr
  go_enter Try.func26, Try.ntmps26
  go_wp2
  go_loopw [3, 4] (fun v i wr => ∃ (k : Nat) (dn : List (List UInt8)), k ≤ l.length ∧ i = .int .i64 k ∧ dn = keysR (l.take k) ∧ dn.length = k ∧ wr.ownsRow w.heap.size 9 1 v dn.length (dn.map S) ∧ Below w.heap.size w wr) (fun _ i _ => l.length - (intOf i).toNat)
  case atStart => exact ⟨0, [], Nat.zero_le _, rfl, rfl, rfl, World.ownsRow_nil _ _ _ _, Below.refl _ _⟩
  case round =>
    obtain ⟨k, dn, hk, rfl, hdn, hdk, hown, hB⟩ := hrel
    have HDN := Lib.hid hdn
    have HDK := Lib.hid hdk
    have hdl : dn.length ≤ 1000000 := by omega
    clear hdn hdk
    have hsz := hB.size
    by_cases h1 : k < l.length
    · have hx := HX.out
      rcases hx with hx | ⟨b, o, rfl, hx⟩
      · exfalso; rw [hx] at h1; simp at h1
      obtain ⟨hx1, hx2⟩ := snp_cells hx h1
      have hc2 := cell_below hB hx2
      have HTK := Lib.hid (show dn ++ [l[k].2] = keysR (l.take (k + 1)) by rw [keysR_step h1, HDN.out])
      clear hx hx1 hx2
      generalize l[k] = y at *
      obtain ⟨p, q⟩ := y
      have h1' : (k : Int) < (l.length : Int) := by omega
      go_wp2_with (at_builtin; refine wpList_append_own _ rfl _ _ 22 rfl w.heap.size 9 i0 (.string ⟨#[]⟩) 1 16 Try.underlying22 hi hz0 hz1 hz2 rfl (by decide) _ _ _ rfl (hown.alloc _) ⟨wr.heap.size, 0, none⟩ 1 1 [S q] rfl rfl (new_cell _ _ _) (by intro u hu; simp at hu; subst hu; rfl) (by unfold maxLen; omega) (by omega) (by simp; omega) ?_)
      intro v' w1 hown' hgrow _
      have hB1 : Below w.heap.size w w1 := (hB.alloc hsz _).grown hgrow (by simp; omega) (fun j hj => (hown.lt j hj).1)
      clear hgrow hown hB hc2
      go_wp2
      go_roundw
      case rel => exact ⟨k + 1, dn ++ [q], by omega, by go_num, HTK.out, by have := HDK.out; simp; omega, by rw [List.length_append, List.map_append]; exact hown', hB1⟩
      case measure => simp [intOf]; omega
    · have h1' : ¬ (k : Int) < (l.length : Int) := by omega
      have HD2 := Lib.hid (show dn = keysR l by rw [HDN.out, List.take_of_length_le (by omega)])
      have HO := Lib.hid (StrRow.of_owns hown)
      clear hown
      go_wp2
      go_ret
      exact ⟨_, rfl, by rw [← HD2.out]; exact HO.out, hB⟩

set_option maxHeartbeats 1000000 in
set_option maxRecDepth 100000 in
theorem r18drop_walk (v : Value) (l : List Snp) (n : List UInt8) (w : World) (hr : SnpRow w v l) (hcnt : l.length ≤ 1000000) :
    Calls Try.prog 25 #[v, S n] w fun e w' => ∃ v', e = .returned (.tuple #[v', .int .i64 (dropE l n).2]) ∧ SnpRow w' v' (dropE l n).1 ∧ Below w.heap.size w w' := by
  have C := r18find_walk v l n w hr hcnt
  have hr0 := hr
  have HD := Lib.hid (show dropE l n = if (findR l n).isSome then (dropL1 l n, 0) else (l, 5) from rfl)
  generalize dropE l n = de at *
  generalize findR l n = fo at *
  obtain ⟨a, c, rfl, hc, hm, hx⟩ := hr
  have HX := Lib.hid hx
  clear hx
  obtain ⟨i0, hi, hz0, hz1, hz2⟩ := info_parts infoSnp
  cases fo with
  | none =>
    have HD1 := Lib.hid (HD.out.trans (if_neg (by simp)))
    go_enter Try.func25, Try.ntmps25
    go_wp2_with fail
    refine C.mono ?_
    rintro e w1 ⟨rfl, hb⟩
    simp only [Option.isSome_none]
    go_wp2
    go_ret2
    exact ⟨_, by rw [HD1.out]; rfl, by rw [HD1.out]; exact hr0.below hb, hb⟩
  | some r =>
    have HD1 := Lib.hid (HD.out.trans (if_pos (by simp)))
    go_enter Try.func25, Try.ntmps25
    go_wp2_with fail
    refine C.mono ?_
    rintro e w0 ⟨rfl, hb⟩
    simp only [Option.isSome_some]
    go_wp2
    go_loopw [8, 9] (fun v i wr => ∃ k : Nat, k ≤ l.length ∧ i = .int .i64 k ∧ wr.ownsRow w.heap.size 31 2 v (dropL1 (l.take k) n).length ((dropL1 (l.take k) n).flatMap snpC) ∧ (dropL1 (l.take k) n).length ≤ k ∧ Below w.heap.size w wr) (fun _ i _ => l.length - (intOf i).toNat)
    case atStart => exact ⟨0, Nat.zero_le _, rfl, World.ownsRow_nil _ _ _ _, by simp [dropL1], hb⟩
    case round =>
      obtain ⟨k, hk, rfl, hown, hdk, hB⟩ := hrel
      have hsz := hB.size
      by_cases h1 : k < l.length
      · have hx := HX.out
        rcases hx with hx | ⟨b, o, rfl, hx⟩
        · exfalso; rw [hx] at h1; simp at h1
        obtain ⟨hx1, hx2⟩ := snp_cells hx h1
        have hc1 := cell_below hB hx1
        have hc2 := cell_below hB hx2
        have HS := Lib.hid (dropL1_step (n := n) h1)
        clear hx hx1 hx2
        generalize l[k] = y at *
        obtain ⟨p, q⟩ := y
        have h1' : (k : Int) < (l.length : Int) := by omega
        generalize dropL1 (l.take k) n = dn at *
        by_cases hpn : p = n
        · have HS1 := Lib.hid (show dropL1 (l.take (k + 1)) n = dn by rw [HS.out, if_pos hpn, List.append_nil])
          have hpp : (p != n) = false := by rw [bne_eq_false_iff_eq]; exact hpn
          have hpe : (p == n) = true := by rw [beq_iff_eq]; exact hpn
          clear hpn HS
          go_wp2
          go_roundw
          case rel => exact ⟨k + 1, by omega, by go_num, by rw [HS1.out]; exact hown, by rw [HS1.out]; omega, hB⟩
          case measure => simp [intOf]; omega
        · have HS1 := Lib.hid (show dropL1 (l.take (k + 1)) n = dn ++ [(p, q)] by rw [HS.out, if_neg hpn])
          have hpp : (p != n) = true := by rw [bne_iff_ne]; exact hpn
          have hpe : (p == n) = false := by rw [beq_eq_false_iff_ne]; exact hpn
          clear hpn HS
          go_wp2_with (at_builtin; refine wpList_append_own _ rfl _ _ 24 rfl w.heap.size 31 i0 (.agg #[.string ⟨#[]⟩, .string ⟨#[]⟩]) 2 32 Try.underlying24 hi hz0 hz1 hz2 rfl (by decide) _ _ _ rfl (hown.alloc _) ⟨wr.heap.size, 0, none⟩ 1 1 [S p, S q] rfl rfl (new_cells _ _ _ _) (by intro u hu; simp at hu; rcases hu with rfl | rfl <;> rfl) (by unfold maxLen; omega) (by omega) (by simp; omega) ?_)
          intro v' w1 hown' hgrow _
          have hB1 : Below w.heap.size w w1 := (hB.alloc hsz _).grown hgrow (by simp; omega) (fun j hj => (hown.lt j hj).1)
          clear hgrow hown hB hc1 hc2
          go_wp2
          go_roundw
          case rel => exact ⟨k + 1, by omega, by go_num, by rw [HS1.out]; simpa using hown', by rw [HS1.out]; simp; omega, hB1⟩
          case measure => simp [intOf]; omega
      · have h1' : ¬ (k : Int) < (l.length : Int) := by omega
        rw [List.take_of_length_le (by omega)] at hown
        have HO := Lib.hid hown
        clear hown
        go_wp2
        go_ret2
        exact ⟨_, by rw [HD1.out]; rfl, by rw [HD1.out]; exact Row.of_owns HO.out, hB⟩
end Go.Proofs.Ytmlahfmcccpgjaa
