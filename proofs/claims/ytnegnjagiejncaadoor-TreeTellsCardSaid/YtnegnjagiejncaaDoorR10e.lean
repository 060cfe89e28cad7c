/- The reference's Drop. -/
import Derived.Test.YtnegnjagiejncaaDoorR10d
namespace Go.Proofs.YtnegnjagiejncaaDoor
open Go.RowKit

theorem dropL_step {l : List Itm} {n : List UInt8} {k : Nat} (h : k < l.length) : dropL (l.take (k + 1)) n = dropL (l.take k) n ++ (if !(l[k].1 == n) && !belowT l[k].1 n then [l[k]] else []) := by
  unfold dropL
  rw [List.take_succ_eq_append_getElem h, List.filter_append]
  congr 1
  rw [List.filter_cons]
  rfl

set_option maxHeartbeats 2000000 in
set_option maxRecDepth 100000 in
theorem r10drop_walk (v : Value) (l : List Itm) (n : List UInt8) (w : World) (hr : ItRow w v l) (hcnt : l.length ≤ 1000000) (hpl : ∀ x ∈ l, x.1.length ≤ 1000000) (hn : n.length ≤ 1000000) :
    Calls Tryd.prog 21 #[v, S n] w fun e w' => ∃ v', e = .returned (.tuple #[v', .int .i64 (dropT l n).2]) ∧ ItRow w' v' (dropT l n).1 ∧ Below w.heap.size w w' := by
  have C := r10find_walk v l n w hr hcnt
  unfold findV at C
  have HR0 := Lib.hid hr
  have HPL := Lib.hid hpl
  have HD := Lib.hid (show dropT l n = if (findT l n).isNone = true then (l, 5) else (dropL l n, 0) from rfl)
  generalize dropT l n = de at *
  generalize findT l n = fo at *
  obtain ⟨a, c, rfl, hc, hm, hx⟩ := hr
  have HX := Lib.hid hx
  clear hx hpl
  obtain ⟨i0, hi, hz0, hz1, hz2⟩ := info_parts infoIt
  cases fo with
  | none =>
    have HD1 := Lib.hid (HD.out.trans (if_pos rfl))
    simp only [Option.getD_none, Option.isSome_none] at C
    go_enter Tryd.func21, Tryd.ntmps21
    go_wp2_with (go_at_call 26; refine (C).mono ?_; rintro e w1 ⟨rfl, hb⟩)
    go_ret2
    have hB1 := hb.alloc hb.size (.cells zC 32)
    exact ⟨_, by rw [HD1.out]; rfl, by rw [HD1.out]; exact HR0.out.below hB1, hB1⟩
  | some r =>
    have HD1 := Lib.hid (HD.out.trans (if_neg (by simp)))
    obtain ⟨rp, rd, re, rt⟩ := r
    simp only [Option.getD_some, Option.isSome_some] at C
    go_enter Tryd.func21, Tryd.ntmps21
    go_wp2_with (go_at_call 26; refine (C).mono ?_; rintro e w0 ⟨rfl, hb⟩)
    go_loopw [8, 9] (fun v i wr => ∃ k : Nat, k ≤ l.length ∧ i = .int .i64 k ∧ wr.ownsRow w.heap.size 32 4 v (dropL (l.take k) n).length ((dropL (l.take k) n).flatMap itC) ∧ (dropL (l.take k) n).length ≤ k ∧ Below w.heap.size w wr) (fun _ i _ => l.length - (intOf i).toNat)
    case atStart => exact ⟨0, Nat.zero_le _, rfl, World.ownsRow_nil _ _ _ _, by simp [dropL], hb.alloc hb.size _⟩
    case round =>
      obtain ⟨k, hk, rfl, hown, hdk, hB⟩ := hrel
      have hsz := hB.size
      by_cases h1 : k < l.length
      · have hx := HX.out
        rcases hx with hx | ⟨b, o, rfl, hx⟩
        · exfalso; rw [hx] at h1; simp at h1
        obtain ⟨hx1, hx2, hx3, hx4⟩ := it_cells hx h1
        have hc1 := cell_below hB hx1
        have hc2 := cell_below hB hx2
        have hc3 := cell_below hB hx3
        have hc4 := cell_below hB hx4
        have HS := Lib.hid (dropL_step (n := n) h1)
        have CB := fun w => r10below_walk l[k].1 n w (HPL.out _ (List.getElem_mem h1)) hn
        clear hx hx1 hx2 hx3 hx4
        generalize l[k] = y at *
        obtain ⟨p, d, ex, dt⟩ := y
        have h1' : (k : Int) < (l.length : Int) := by omega
        generalize dropL (l.take k) n = dn at *
        simp only at CB HS hc1 hc2 hc3 hc4
        generalize belowT p n = bl at *
        by_cases hpn : p = n
        · have hpe : (p == n) = true := by rw [beq_iff_eq]; exact hpn
          have HS1 := Lib.hid (show dropL (l.take (k + 1)) n = dn by rw [HS.out, hpe]; simp)
          clear hpn HS CB
          go_wp2
          go_roundw
          case rel => exact ⟨k + 1, by omega, by go_num, by rw [HS1.out]; exact hown, by rw [HS1.out]; omega, hB⟩
          case measure => simp [intOf]; omega
        have hpe : (p == n) = false := by rw [beq_eq_false_iff_ne]; exact hpn
        clear hpn
        cases bl with
        | true =>
          have HS1 := Lib.hid (show dropL (l.take (k + 1)) n = dn by rw [HS.out, hpe]; simp)
          clear HS
          go_wp2_with (go_at_call 50; refine (CB _).mono ?_; rintro e w1 ⟨rfl, rfl⟩)
          go_roundw
          case rel => exact ⟨k + 1, by omega, by go_num, by rw [HS1.out]; exact hown, by rw [HS1.out]; omega, hB⟩
          case measure => simp [intOf]; omega
        | false =>
          have HS1 := Lib.hid (show dropL (l.take (k + 1)) n = dn ++ [(p, d, ex, dt)] by rw [HS.out, hpe]; simp)
          clear HS
          go_wp2_with (first | (go_at_call 50; refine (CB _).mono ?_; rintro e w1 ⟨rfl, hw9⟩; rw [hw9]; clear hw9 w1) | (at_builtin; refine wpList_append_own _ rfl _ _ 22 rfl w.heap.size 32 i0 (.agg #[.string ⟨#[]⟩, .bool false, .bool false, .string ⟨#[]⟩]) 4 40 Tryd.underlying22 hi hz0 hz1 hz2 rfl (by decide) _ _ _ rfl (hown.alloc _) ⟨wr.heap.size, 0, none⟩ 1 1 [S p, .bool d, .bool ex, S dt] rfl rfl (new_cells4 _ _ _ _ _ _) (it4_one (p, d, ex, dt)) (by unfold maxLen; omega) (by omega) (by simp; omega) ?_))
          intro v' w1 hown' hgrow _
          have hB1 : Below w.heap.size w w1 := (hB.alloc hsz _).grown hgrow (by simp; omega) (fun j hj => (hown.lt j hj).1)
          clear hgrow hown hB hc1 hc2 hc3 hc4
          go_wp2
          go_roundw
          case rel => exact ⟨k + 1, by omega, by go_num, by rw [HS1.out]; simpa using hown', by rw [HS1.out]; simp; omega, hB1⟩
          case measure => simp [intOf]; omega
      · have h1' : ¬ (k : Int) < (l.length : Int) := by omega
        rw [List.take_of_length_le (by omega)] at hown
        have HO := Lib.hid hown
        clear hown
        go_wp2
        go_ret2
        exact ⟨_, by rw [HD1.out]; rfl, by rw [HD1.out]; exact Row.of_ownsK itC_len HO.out, hB⟩
end Go.Proofs.YtnegnjagiejncaaDoor
