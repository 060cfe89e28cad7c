/- Few parts, few entries, short texts. -/
import Derived.Test.YtnnjgokaabaaoaaGreatDoorNodeB
import Derived.Test.YtnnjgokaabaaoaaGreatDoorJTail
namespace Go.Proofs.YtnnjgokaabaaoaaGreatDoor
open Go.RowKit

structure FewN (n : Nod) : Prop where
  data : n.data.length ≤ 5000
  parts : n.parts.length ≤ 100
  ents : n.ents.length ≤ 70
  keys : ∀ p ∈ n.parts, p.1.length ≤ 100
  names : ∀ e ∈ n.ents, e.2.2.2.length ≤ 100 ∧ e.1.length ≤ 100
noncomputable def fewN (n : Nod) : Bool := @decide (FewN n) (Classical.propDecidable _)
theorem fewN_yes {n : Nod} (h : FewN n) : fewN n = true := @decide_eq_true _ (Classical.propDecidable _) h
theorem fewN_no {n : Nod} (h : ¬ FewN n) : fewN n = false := @decide_eq_false _ (Classical.propDecidable _) h
theorem fewN_iff {n : Nod} : fewN n = true ↔ FewN n := ⟨fun h => @of_decide_eq_true _ (Classical.propDecidable _) h, fewN_yes⟩

set_option maxHeartbeats 4000000 in
set_option maxRecDepth 100000 in
theorem few11_walk (vp ve : Value) (n : Nod) (w : World) (hr : NodRow w n vp ve) :
    Calls Tryz.prog 7 #[NodV n vp ve] w fun e w' => e = .returned (.bool (fewN n)) ∧ Below w.heap.size w w' := by
  have HY := Lib.hid (fun h : FewN n => fewN_yes h)
  have HN := Lib.hid (fun h : ¬ FewN n => fewN_no h)
  obtain ⟨fb, hfb⟩ : ∃ fb, fewN n = fb := ⟨_, rfl⟩
  rw [hfb] at HY HN ⊢
  clear hfb
  obtain ⟨w1, hw1, hB1, hz⟩ : ∃ w1, w1 = w.alloc (.cells #[.int .i64 n.kind, S n.data, vp, ve] 25) ∧ Below w.heap.size w w1 ∧ w1.heap[w.heap.size]? = some (.cells #[.int .i64 n.kind, S n.data, vp, ve] 25 (0, 0)) :=
    ⟨_, rfl, (Below.refl _ _).alloc (Nat.le_refl _) _, heap_alloc_new _ _⟩
  have HR := Lib.hid hr
  obtain ⟨va, vc, rfl⟩ := row_slice hr.parts
  obtain ⟨ua, uc, rfl⟩ := row_slice hr.ents
  obtain ⟨⟨z0, z1, z2, z3⟩, -, -⟩ := box4 hz
  clear hr
  by_cases h1 : 5000 < n.data.length
  · have h1' : (5000 : Int) < (n.data.length : Int) := by omega
    have HF := Lib.hid (HN.out (fun h => by have := h.data; omega))
    clear h1 HN HY hz
    go_enter Tryz.func7, Tryz.ntmps7
    go_upto_region 1 with fail
    rw [← hw1]
    clear hw1
    go_wp2
    go_ret
    exact ⟨by rw [HF.out]; rfl, hB1⟩
  by_cases h2 : 100 < n.parts.length
  · have h1' : ¬ (5000 : Int) < (n.data.length : Int) := by omega
    have h2' : (100 : Int) < (n.parts.length : Int) := by omega
    have HF := Lib.hid (HN.out (fun h => by have := h.parts; omega))
    clear h1 h2 HN HY hz
    go_enter Tryz.func7, Tryz.ntmps7
    go_upto_region 1 with fail
    rw [← hw1]
    clear hw1
    go_wp2
    go_ret
    exact ⟨by rw [HF.out]; rfl, hB1⟩
  by_cases h3 : 70 < n.ents.length
  · have h1' : ¬ (5000 : Int) < (n.data.length : Int) := by omega
    have h2' : ¬ (100 : Int) < (n.parts.length : Int) := by omega
    have h3' : (70 : Int) < (n.ents.length : Int) := by omega
    have HF := Lib.hid (HN.out (fun h => by have := h.ents; omega))
    clear h1 h2 h3 HN HY hz
    go_enter Tryz.func7, Tryz.ntmps7
    go_upto_region 1 with fail
    rw [← hw1]
    clear hw1
    go_wp2
    go_ret
    exact ⟨by rw [HF.out]; rfl, hB1⟩
  have h1' : ¬ (5000 : Int) < (n.data.length : Int) := by omega
  have h2' : ¬ (100 : Int) < (n.parts.length : Int) := by omega
  have h3' : ¬ (70 : Int) < (n.ents.length : Int) := by omega
  have HZ := Lib.hid hz
  have HB1 := Lib.hid hB1
  clear hz hB1
  go_enter Tryz.func7, Tryz.ntmps7
  go_upto_region 1 with fail
  rw [← hw1]
  clear hw1
  go_wp2
  go_loopw [26] (fun i wr => ∃ k : Nat, k ≤ n.parts.length ∧ i = .int .i64 k ∧ (∀ p ∈ n.parts.take k, p.1.length ≤ 100) ∧ Below w1.heap.size w1 wr) (fun i _ => n.parts.length - (intOf i).toNat)
  case atStart => exact ⟨0, Nat.zero_le _, rfl, by simp, Below.refl _ _⟩
  case round =>
    obtain ⟨k, hk, rfl, hall, hB⟩ := hrel
    have hbb := below_chain HB1.out hB HB1.out.size
    by_cases hlt : k < n.parts.length
    · have hlt' : (k : Int) < (n.parts.length : Int) := by omega
      obtain ⟨a0, c0, hv, -, -, hx⟩ := HR.out.parts
      obtain ⟨g1, g2⟩ : va = a0 ∧ vc = c0 := by cases hv; exact ⟨rfl, rfl⟩
      subst g1 g2
      clear hv
      rcases hx with hx | ⟨b, o, rfl, hx⟩
      · exfalso; rw [hx] at hlt; simp at hlt
      obtain ⟨hc1, hc2⟩ := prt_cells hx hlt
      replace hc1 := cell_below hbb hc1
      replace hc2 := cell_below hbb hc2
      have HMEM := Lib.hid (List.getElem_mem hlt)
      have HTK := Lib.hid (List.take_succ_eq_append_getElem hlt)
      have HALL := Lib.hid hall
      have HB := Lib.hid hB
      clear hx hall hB
      generalize n.parts[k] = y at *
      obtain ⟨key, sz⟩ := y
      simp only at hc1 hc2
      have HBB := Lib.hid hbb
      clear hbb
      by_cases hky : 100 < key.length
      · have hky' : (100 : Int) < (key.length : Int) := by omega
        have HF := Lib.hid (HN.out (fun h => by have := h.keys _ HMEM.out; simp only at this; omega))
        clear hky
        go_wp2
        go_ret
        exact ⟨by rw [HF.out]; rfl, HBB.out.alloc HBB.out.size _⟩
      · have hky' : ¬ (100 : Int) < (key.length : Int) := by omega
        have HKY := Lib.hid hky
        clear hky
        go_wp2
        go_roundw
        case rel =>
          refine ⟨k + 1, by omega, by go_num, ?_, HB.out.alloc HB.out.size _⟩
          rw [HTK.out]
          intro p hp
          rcases List.mem_append.1 hp with hp | hp
          · exact HALL.out p hp
          · rw [List.mem_singleton.1 hp]; have := HKY.out; simp only; omega
        case measure => simp [intOf]; omega
    · have hlt' : ¬ (k : Int) < (n.parts.length : Int) := by omega
      obtain rfl : k = n.parts.length := by omega
      rw [List.take_of_length_le (Nat.le_refl _)] at hall
      have HALL := Lib.hid hall
      have hz2 := (hB.block _ (heap_lt HZ.out)).trans HZ.out
      obtain ⟨⟨y0, y1, y2, y3⟩, -, -⟩ := box4 hz2
      have HB2 := Lib.hid hbb
      clear hall hB hbb hz2 z0 z1 z2 z3
      go_wp2
      obtain ⟨w2, rfl⟩ : ∃ w2 : World, w2 = wr := ⟨_, rfl⟩
      go_loopw [38] (fun i wr => ∃ k : Nat, k ≤ n.ents.length ∧ i = .int .i64 k ∧ (∀ e ∈ n.ents.take k, e.2.2.2.length ≤ 100 ∧ e.1.length ≤ 100) ∧ Below w.heap.size w wr) (fun i _ => n.ents.length - (intOf i).toNat)
      case atStart => exact ⟨0, Nat.zero_le _, rfl, by simp, HB2.out⟩
      case round =>
        obtain ⟨k, hk, rfl, hall, hbb⟩ := hrel
        by_cases hlt2 : k < n.ents.length
        · have hlt3 : (k : Int) < (n.ents.length : Int) := by omega
          obtain ⟨a0, c0, hv, -, -, hx⟩ := HR.out.ents
          obtain ⟨g1, g2⟩ : ua = a0 ∧ uc = c0 := by cases hv; exact ⟨rfl, rfl⟩
          subst g1 g2
          clear hv
          rcases hx with hx | ⟨b, o, rfl, hx⟩
          · exfalso; rw [hx] at hlt2; simp at hlt2
          obtain ⟨hc1, hc2, hc3, hc4⟩ := ent_cells hx hlt2
          replace hc1 := cell_below hbb hc1
          replace hc2 := cell_below hbb hc2
          replace hc3 := cell_below hbb hc3
          replace hc4 := cell_below hbb hc4
          have HMEM := Lib.hid (List.getElem_mem hlt2)
          have HTK := Lib.hid (List.take_succ_eq_append_getElem hlt2)
          have HALL2 := Lib.hid hall
          have HBB := Lib.hid hbb
          clear hx hall hbb
          generalize n.ents[k] = y at *
          obtain ⟨nm, ek, ex, key⟩ := y
          simp only at hc1 hc2 hc3 hc4
          by_cases hky : 100 < key.length
          · have hky' : (100 : Int) < (key.length : Int) := by omega
            have HF := Lib.hid (HN.out (fun h => by have := (h.names _ HMEM.out).1; simp only at this; omega))
            clear hky
            go_wp2
            go_ret
            exact ⟨by rw [HF.out]; rfl, HBB.out.alloc HBB.out.size _⟩
          by_cases hnm : 100 < nm.length
          · have hky' : ¬ (100 : Int) < (key.length : Int) := by omega
            have hnm' : (100 : Int) < (nm.length : Int) := by omega
            have HF := Lib.hid (HN.out (fun h => by have := (h.names _ HMEM.out).2; simp only at this; omega))
            clear hky hnm
            go_wp2
            go_ret
            exact ⟨by rw [HF.out]; rfl, HBB.out.alloc HBB.out.size _⟩
          have hky' : ¬ (100 : Int) < (key.length : Int) := by omega
          have hnm' : ¬ (100 : Int) < (nm.length : Int) := by omega
          have HKY := Lib.hid (show key.length ≤ 100 ∧ nm.length ≤ 100 by omega)
          clear hky hnm
          go_wp2
          go_roundw
          case rel =>
            refine ⟨k + 1, by omega, by go_num, ?_, HBB.out.alloc HBB.out.size _⟩
            rw [HTK.out]
            intro p hp
            rcases List.mem_append.1 hp with hp | hp
            · exact HALL2.out p hp
            · rw [List.mem_singleton.1 hp]; exact HKY.out
          case measure => simp [intOf]; omega
        · have hlt3 : ¬ (k : Int) < (n.ents.length : Int) := by omega
          obtain rfl : k = n.ents.length := by omega
          rw [List.take_of_length_le (Nat.le_refl _)] at hall
          have HF := Lib.hid (HY.out ⟨by omega, by omega, by omega, HALL.out, hall⟩)
          have HBB := Lib.hid hbb
          clear hall hbb
          go_wp2
          go_ret
          exact ⟨by rw [HF.out]; rfl, HBB.out⟩
end Go.Proofs.YtnnjgokaabaaoaaGreatDoor
