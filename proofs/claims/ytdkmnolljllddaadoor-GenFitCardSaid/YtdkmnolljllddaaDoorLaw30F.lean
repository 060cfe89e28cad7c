/- GenFit: the walk. -/
import Derived.Test.YtdkmnolljllddaaDoorLaw30T
namespace Go.Proofs.YtdkmnolljllddaaDoor
open Go.RowKit

theorem countP_step {l : List Itm} {k : Nat} (h : k < l.length) : (l.take (k + 1)).countP (fun x => x.2.1) = (l.take k).countP (fun x => x.2.1) + if l[k].2.1 = true then 1 else 0 := by
  rw [List.take_succ_eq_append_getElem h, List.countP_append]
  simp [List.countP_singleton]

set_option maxHeartbeats 2000000 in
set_option maxRecDepth 100000 in
theorem gfit_walk (s : Int) (w : World) (hM : Mx w) (hT : SpTab w) (hs0 : 0 ≤ s) (hs1 : s < 18446744073709551616) :
    Calls Tryd.prog 4 #[.int .u64 s] w fun e w' => e = .returned (.bool true) ∧ Below w.heap.size w w' := by
  have HM := Lib.hid hM
  have HT := Lib.hid hT
  have CT := ptree_walk s w hs0 hs1 hM hT
  clear hM hT
  have hl := treeG_len s
  have hfit := treeG_fit s
  have HD := Lib.hid (treeG_dirs s)
  have HS := Lib.hid (fun x (h : x ∈ treeG s) => treeG_small h)
  have hpl : ∀ x ∈ treeG s, x.1.length ≤ 1000000 := fun x hx => by have := treeK_path s 8 x hx; omega
  generalize treeG s = l at *
  have hft : fitTB l = true := fitTB_iff.2 hfit
  have hsz := hfit.size
  have CF := fun v w h => r10fit_walk v l w h (by omega) (by omega) hpl
  rw [hft] at CF
  clear hft hsz hfit hpl
  go_enter Tryd.func4, Tryd.ntmps4
  go_wp2_with fail
  refine CT.mono ?_
  rintro e w1 ⟨v, rfl, hr, hb1⟩
  clear CT
  have HR := Lib.hid hr
  obtain ⟨a, c, rfl, hc, hm, hx⟩ := hr
  have HX := Lib.hid hx
  clear hx
  go_wp2
  go_loopw [4, 11] (fun n i wr => ∃ k : Nat, k ≤ l.length ∧ i = .int .i64 k ∧ n = .int .i64 ((l.take k).countP (fun x => x.2.1) : Nat) ∧ Below w1.heap.size w1 wr) (fun _ i _ => l.length - (intOf i).toNat)
  case atStart => exact ⟨0, Nat.zero_le _, rfl, rfl, Below.refl _ _⟩
  case round =>
    obtain ⟨k, hk, rfl, rfl, hB⟩ := hrel
    have hcl : (l.take k).countP (fun x => x.2.1) ≤ k := by
      have := List.countP_le_length (p := fun x : Itm => x.2.1) (l := l.take k)
      rw [List.length_take] at this; omega
    by_cases h1 : k < l.length
    · have h1' : (k : Int) < (l.length : Int) := by omega
      have hx := HX.out
      rcases hx with hx | ⟨b, o, rfl, hx⟩
      · exfalso; rw [hx] at h1; simp at h1
      obtain ⟨hx1, hx2, hx3, hx4⟩ := it_cells hx h1
      have hc1 := cell_below hB hx1
      have hc2 := cell_below hB hx2
      have hc3 := cell_below hB hx3
      have hc4 := cell_below hB hx4
      have HST := Lib.hid (countP_step h1)
      have hsm := HS.out l[k] (List.getElem_mem h1)
      clear hx hx1 hx2 hx3 hx4
      have HBA := Lib.hid (show Below w1.heap.size w1 (wr.alloc (.cells #[S l[k].1, .bool l[k].2.1, .bool l[k].2.2.1, S l[k].2.2.2] 32)) from hB.alloc hB.size _)
      generalize (l.take k).countP (fun x => x.2.1) = n at *
      generalize l[k] = y at *
      obtain ⟨p, dd, ex, q⟩ := y
      simp only at hc1 hc2 hc3 hc4 hsm
      have r1 := cell_new wr #[S p, .bool dd, .bool ex, S q] 32 1 rfl
      have r3 := cell_new wr #[S p, .bool dd, .bool ex, S q] 32 3 rfl
      have hsm' : ¬ (300 : Int) ≤ (q.length : Int) := by omega
      clear hB hsm
      cases dd with
      | true =>
        go_wp2
        go_roundw
        case rel => exact ⟨k + 1, by omega, by go_num, by rw [HST.out]; go_num, HBA.out⟩
        case measure => simp [intOf]; omega
      | false =>
        go_wp2
        go_roundw
        case rel => exact ⟨k + 1, by omega, by go_num, by rw [HST.out]; go_num, HBA.out⟩
        case measure => simp [intOf]; omega
    · have h1' : ¬ (k : Int) < (l.length : Int) := by omega
      obtain rfl : k = l.length := by omega
      have hd := HD.out
      rw [List.take_of_length_le (Nat.le_refl _), hd]
      clear hd hcl
      have hB1 := below_chain hb1 hB hb1.size
      have C1 := CF _ _ (HR.out.below hB)
      have h8 : (l.length : Int) ≤ 8 := by omega
      go_wp2_with fail
      refine C1.mono ?_
      rintro e w2 ⟨rfl, hb2⟩
      replace hB1 := below_chain hB1 hb2 hB1.size
      clear C1 CF
      go_wp2_with (go_at_call 18; refine (awake30_walk _ (HM.out.below hB1) (HT.out.below hB1)).mono ?_; rintro e w10 ⟨rfl, hb10⟩)
      go_ret
      exact ⟨rfl, below_chain hB1 hb10 hB1.size⟩
end Go.Proofs.YtdkmnolljllddaaDoor
