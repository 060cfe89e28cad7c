/- The reference's collections: Fit, Same. The reference's collections that can be: told wholly. -/
import Derived.Test.YtengciicdnkgaaaGreatDoorJKey
import Derived.Test.YtengciicdnkgaaaGreatDoorGcDefs
import Derived.Test.YtengciicdnkgaaaGreatDoorGcFitP
namespace Go.Proofs.YtengciicdnkgaaaGreatDoor
open Go.RowKit

def FitGPost (m : List (List UInt8)) (w : World) (e : Ending) (w' : World) : Prop := ∃ b : Bool, e = .returned (.bool b) ∧ (b = true → fit5 m = true) ∧ Below w.heap.size w w'

set_option maxHeartbeats 8000000 in
set_option maxRecDepth 100000 in
theorem rfit20_walk (on : Bool) (qv mv : Value) (q m : List (List UInt8)) (w : World) (hq : StrRow w qv q) (hm : StrRow w mv m) (hql : q.length ≤ 1000) (hml : m.length ≤ 1000) :
    Calls Tryz.prog 7 #[GcV on qv mv] w (FitGPost m w) := by
  have HQ := Lib.hid hq
  have HM := Lib.hid hm
  obtain ⟨qa, qc, rfl, hqc, hqm, hqx⟩ := hq
  have HQX := Lib.hid hqx
  obtain ⟨ma, mc, rfl, _⟩ := hm
  clear hqx
  obtain ⟨w1, hw1, hB1, hg1⟩ : ∃ w1, w1 = w.alloc (GCells on (.slice qa q.length qc) (.slice ma m.length mc)) ∧ Below w.heap.size w w1 ∧ w1.heap[w.heap.size]? = some (GCells on (.slice qa q.length qc) (.slice ma m.length mc)) :=
    ⟨_, rfl, (Below.refl _ _).alloc (Nat.le_refl _) _, heap_alloc_new w _⟩
  have C := rfit5_walk (.slice ma m.length mc) m w1 (HM.out.below hB1) (by omega)
  have HP := Lib.hid (fun (b : Bool) (h : b = true → fit5 m = true) w' (hB : Below w.heap.size w w') => show FitGPost m w (.returned (.bool b)) w' from ⟨b, rfl, h, hB⟩)
  obtain ⟨f, hf⟩ : ∃ f, fit5 m = f := ⟨_, rfl⟩
  have HF := Lib.hid hf
  rw [hf] at C
  clear hf
  obtain ⟨y0, y1, y2⟩ := gcells hg1
  cases f with
  | false =>
    go_enter Tryz.func7, Tryz.ntmps7
    go_upto_region 1 with fail
    rw [← hw1]
    clear hw1
    go_wp2_with fail
    refine C.mono ?_
    rintro e w2 ⟨rfl, hb2⟩
    have hB2 := below_chain hB1 hb2 hB1.size
    go_wp2
    go_ret
    exact HP.out false (fun h => by cases h) _ hB2
  | true =>
  have hcases : (on = false ∧ 0 < q.length + m.length) ∨ (on = true ∧ m.length < q.length) ∨ (on = true ∧ ¬ m.length < q.length) ∨ (on = false ∧ q = [] ∧ m = []) := by
    cases on with
    | true => by_cases h : m.length < q.length
              · exact .inr (.inl ⟨rfl, h⟩)
              · exact .inr (.inr (.inl ⟨rfl, h⟩))
    | false => by_cases h : 0 < q.length + m.length
               · exact .inl ⟨rfl, h⟩
               · exact .inr (.inr (.inr ⟨rfl, List.length_eq_zero_iff.1 (by omega), List.length_eq_zero_iff.1 (by omega)⟩))
  rcases hcases with ⟨rfl, g1⟩ | ⟨rfl, g2⟩ | ⟨rfl, g2⟩ | ⟨rfl, rfl, rfl⟩
  · have hwr : IntKind.i64.wrap ((q.length : Int) + (m.length : Int)) = (q.length : Int) + (m.length : Int) := by rw [IntKind.wrap_i64]; omega
    have g1' : (0 : Int) < (q.length : Int) + (m.length : Int) := by omega
    go_enter Tryz.func7, Tryz.ntmps7
    go_upto_region 1 with fail
    rw [← hw1]
    clear hw1
    go_wp2_with fail
    refine C.mono ?_
    rintro e w2 ⟨rfl, hb2⟩
    have hB2 := below_chain hB1 hb2 hB1.size
    have hg2 := keptG hb2 hg1
    clear C y0 y1 y2 hg1 hb2 hB1
    obtain ⟨y0, y1, y2⟩ := gcells hg2
    go_wp2
    go_ret
    exact HP.out false (fun h => by cases h) _ hB2
  · have g2' : (m.length : Int) < (q.length : Int) := by omega
    go_enter Tryz.func7, Tryz.ntmps7
    go_upto_region 1 with fail
    rw [← hw1]
    clear hw1
    go_wp2_with fail
    refine C.mono ?_
    rintro e w2 ⟨rfl, hb2⟩
    have hB2 := below_chain hB1 hb2 hB1.size
    have hg2 := keptG hb2 hg1
    clear C y0 y1 y2 hg1 hb2 hB1
    obtain ⟨y0, y1, y2⟩ := gcells hg2
    go_wp2
    go_ret
    exact HP.out false (fun h => by cases h) _ hB2
  · have g2' : ¬ (m.length : Int) < (q.length : Int) := by omega
    go_enter Tryz.func7, Tryz.ntmps7
    go_upto_region 1 with fail
    rw [← hw1]
    clear hw1
    go_wp2_with fail
    refine C.mono ?_
    rintro e w2 ⟨rfl, hb2⟩
    have hB2 := below_chain hB1 hb2 hB1.size
    have hg2 := keptG hb2 hg1
    clear C y0 y1 y2 hg1 hb2 hB1
    obtain ⟨y0, y1, y2⟩ := gcells hg2
    go_wp2
    go_loopw [3] (fun i wr => ∃ j : Nat, j ≤ q.length ∧ i = .int .i64 j ∧ Below w2.heap.size w2 wr) (fun i _ => q.length - (intOf i).toNat)
    case atStart => exact ⟨0, Nat.zero_le _, rfl, Below.refl _ _⟩
    case round =>
      obtain ⟨j, hj, rfl, hB⟩ := hrel
      have hgr := keptG hB hg2
      have hBw := below_chain hB2 hB hB2.size
      by_cases h1 : j < q.length
      · have h1' : (j : Int) < (q.length : Int) := by omega
        have hjc : (j : Int) ≤ (qc : Int) := by omega
        have hjq : (j : Int) ≤ (q.length : Int) := by omega
        have hqx := HQX.out
        rcases hqx with hqx | ⟨b, o, rfl, hqx⟩
        · exfalso; rw [hqx] at h1; simp at h1
        have hc1 := cell_below hBw (str_cell hqx h1)
        have hrq := HQ.out.below hBw
        have hrt := hrq.take (n := j) (by omega)
        have CA := fun (p : LaterOf wr) => rhas_walk (.slice ma m.length mc) m q[j] p.world ((HM.out.below hBw).below p.below) (by omega)
        have CB := fun (p : LaterOf wr) => rhas_walk (.slice (some ⟨b, o, none⟩) j qc) (q.take j) q[j] p.world (hrt.below p.below) (by rw [List.length_take]; omega)
        obtain ⟨r1, hr1⟩ : ∃ r, decide (q[j] ∈ m) = r := ⟨_, rfl⟩
        obtain ⟨r2, hr2⟩ : ∃ r, decide (q[j] ∈ q.take j) = r := ⟨_, rfl⟩
        rw [hr1] at CA
        rw [hr2] at CB
        clear hqx hrq hrt hr1 hr2
        generalize q[j] = y at *
        obtain ⟨n0, n1, n2⟩ := gcells hgr
        have l0 := LaterOf.cell n0
        have l1 := LaterOf.cell n1
        have l2 := LaterOf.cell n2
        have l3 := LaterOf.cell hc1
        cases r1
        · go_upto_region 6 with fail
          (refine wp_region_later (by kernel_rfl) (by kernel_rfl) ?_; (repeat (go_big_quiet_step (first | (go_at_call 12; with_reducible exact LaterOf.call _ (CA _)) | (go_at_call 12; with_reducible exact LaterOf.call _ (CB _))))); refine wpQuiet_nil ?_; intro _ hw1; obtain ⟨lw, hw2⟩ := hw1; subst hw2)
          go_wp2
          go_ret
          exact HP.out false (fun h => by cases h) _ (below_chain hBw lw.below hBw.size)
        · cases r2
          · go_upto_region 6 with fail
            (refine wp_region_later (by kernel_rfl) (by kernel_rfl) ?_; (repeat (go_big_quiet_step (first | (go_at_call 12; with_reducible exact LaterOf.call _ (CA _)) | (go_at_call 12; with_reducible exact LaterOf.call _ (CB _))))); refine wpQuiet_nil ?_; intro _ hw1; obtain ⟨lw, hw2⟩ := hw1; subst hw2)
            go_wp2
            go_roundw
            case rel => exact ⟨j + 1, by omega, by go_num, below_chain hB lw.below hB.size⟩
            case measure => simp [intOf]; omega
          · go_upto_region 6 with fail
            (refine wp_region_later (by kernel_rfl) (by kernel_rfl) ?_; (repeat (go_big_quiet_step (first | (go_at_call 12; with_reducible exact LaterOf.call _ (CA _)) | (go_at_call 12; with_reducible exact LaterOf.call _ (CB _))))); refine wpQuiet_nil ?_; intro _ hw1; obtain ⟨lw, hw2⟩ := hw1; subst hw2)
            go_wp2
            go_ret
            exact HP.out false (fun h => by cases h) _ (below_chain hBw lw.below hBw.size)
      · have h1' : ¬ (j : Int) < (q.length : Int) := by omega
        obtain ⟨n0, n1, n2⟩ := gcells hgr
        go_wp2
        go_ret
        exact HP.out true (fun _ => HF.out) _ hBw
  · clear y0 y1 y2
    simp only [List.length_nil] at hw1 hg1 C
    obtain ⟨y0, y1, y2⟩ := gcells hg1
    go_enter Tryz.func7, Tryz.ntmps7
    go_upto_region 1 with fail
    rw [← hw1]
    clear hw1
    go_wp2_with fail
    refine C.mono ?_
    rintro e w2 ⟨rfl, hb2⟩
    have hB2 := below_chain hB1 hb2 hB1.size
    have hg2 := keptG hb2 hg1
    clear C y0 y1 y2 hg1 hb2 hB1
    obtain ⟨y0, y1, y2⟩ := gcells hg2
    go_wp2
    go_loopw [3] (fun i wr => i = .int .i64 0 ∧ wr = w2) (fun i _ => 0)
    case atStart => exact ⟨rfl, rfl⟩
    case round =>
      obtain ⟨rfl, rfl⟩ := hrel
      go_wp2
      go_ret
      exact HP.out true (fun _ => HF.out) _ hB2

set_option maxHeartbeats 4000000 in
set_option maxRecDepth 100000 in
theorem rsame20_walk (on : Bool) (qv mv qv2 mv2 : Value) (q m : List (List UInt8)) (w : World) (hq : StrRow w qv q) (hm : StrRow w mv m) (hq2 : StrRow w qv2 q) (hm2 : StrRow w mv2 m) (hql : q.length ≤ 1099000) (hml : m.length ≤ 1099000) :
    Calls Tryz.prog 10 #[GcV on qv mv, GcV on qv2 mv2] w fun e w' => e = .returned (.bool true) ∧ Below w.heap.size w w' := by
  have HQ := Lib.hid hq
  have HM := Lib.hid hm
  have HQ2 := Lib.hid hq2
  have HM2 := Lib.hid hm2
  obtain ⟨qa, qc, rfl, _⟩ := hq
  obtain ⟨ma, mc, rfl, _⟩ := hm
  obtain ⟨qa2, qc2, rfl, _⟩ := hq2
  obtain ⟨ma2, mc2, rfl, _⟩ := hm2
  obtain ⟨w1, hw1, hB1, hz1, hg1, hr1⟩ : ∃ w1, w1 = (w.alloc (GCells on (.slice qa q.length qc) (.slice ma m.length mc))).alloc (GCells on (.slice qa2 q.length qc2) (.slice ma2 m.length mc2)) ∧ Below w.heap.size w w1 ∧ w1.heap.size = w.heap.size + 1 + 1 ∧ w1.heap[w.heap.size]? = some (GCells on (.slice qa q.length qc) (.slice ma m.length mc)) ∧ w1.heap[w.heap.size + 1]? = some (GCells on (.slice qa2 q.length qc2) (.slice ma2 m.length mc2)) := by
    refine ⟨_, rfl, ((Below.refl _ _).alloc (Nat.le_refl _) _).alloc (by simp) _, by simp, ?_, ?_⟩
    · exact heap_old (heap_alloc_new w _)
    · exact heap_new' (by simp) _
  clear hz1
  have hoo : (on == on) = true := by simp
  have C := rsame5_walk (.slice qa q.length qc) (.slice qa2 q.length qc2) q q w1 (HQ.out.below hB1) (HQ2.out.below hB1) (by omega)
  rw [decide_eq_true rfl] at C
  obtain ⟨y0, y1, y2⟩ := gcells hg1
  obtain ⟨z0, z1, z2⟩ := gcells hr1
  go_enter Tryz.func10, Tryz.ntmps10
  go_upto_region 1 with fail
  rw [← hw1]
  clear hw1
  go_wp2_with fail
  refine C.mono ?_
  rintro e w2 ⟨rfl, hb2⟩
  have hB2 := below_chain hB1 hb2 hB1.size
  have hg2 := keptG hb2 hg1
  have hr2 := keptG hb2 hr1
  clear C y0 y1 y2 z0 z1 z2
  obtain ⟨y0, y1, y2⟩ := gcells hg2
  obtain ⟨z0, z1, z2⟩ := gcells hr2
  have C := rsame5_walk (.slice ma m.length mc) (.slice ma2 m.length mc2) m m w2 (HM.out.below hB2) (HM2.out.below hB2) (by omega)
  rw [decide_eq_true rfl] at C
  go_wp2_with fail
  refine C.mono ?_
  rintro e w3 ⟨rfl, hb3⟩
  go_wp2
  go_ret
  exact ⟨rfl, below_chain hB2 hb3 hB2.size⟩
end Go.Proofs.YtengciicdnkgaaaGreatDoor

namespace Go.Proofs.YtengciicdnkgaaaGreatDoor
open Go.RowKit

set_option maxHeartbeats 8000000 in
set_option maxRecDepth 100000 in
theorem rfitx20_walk (on : Bool) (qv mv : Value) (q m : List (List UInt8)) (w : World) (hq : StrRow w qv q) (hm : StrRow w mv m) (hql : q.length ≤ 1000) (hml : m.length ≤ 1000) :
    Calls Tryz.prog 7 #[GcV on qv mv] w fun e w' => e = .returned (.bool (fitG on q m)) ∧ Below w.heap.size w w' := by
  have HQ := Lib.hid hq
  have HM := Lib.hid hm
  obtain ⟨qa, qc, rfl, hqc, hqm, hqx⟩ := hq
  have HQX := Lib.hid hqx
  obtain ⟨ma, mc, rfl, _⟩ := hm
  clear hqx
  obtain ⟨w1, hw1, hB1, hg1⟩ : ∃ w1, w1 = w.alloc (GCells on (.slice qa q.length qc) (.slice ma m.length mc)) ∧ Below w.heap.size w w1 ∧ w1.heap[w.heap.size]? = some (GCells on (.slice qa q.length qc) (.slice ma m.length mc)) :=
    ⟨_, rfl, (Below.refl _ _).alloc (Nat.le_refl _) _, heap_alloc_new w _⟩
  have C := rfit5_walk (.slice ma m.length mc) m w1 (HM.out.below hB1) (by omega)
  have HNO := Lib.hid (fun (h : ¬ (fit5 m = true ∧ (on = true ∨ (q = [] ∧ m = [])) ∧ (∀ x ∈ q, x ∈ m) ∧ q.Nodup)) => show fitG on q m = false from by
    cases e : fitG on q m with
    | false => rfl
    | true => exact absurd (fitG_iff.1 e) h)
  have HYES := Lib.hid (fun h => fitG_iff (on := on) (q := q) (m := m) |>.2 h)
  generalize hres : fitG on q m = res at *
  clear hres
  obtain ⟨f, hf⟩ : ∃ f, fit5 m = f := ⟨_, rfl⟩
  have HF := Lib.hid hf
  rw [hf] at C
  clear hf
  obtain ⟨y0, y1, y2⟩ := gcells hg1
  cases f with
  | false =>
    go_enter Tryz.func7, Tryz.ntmps7
    go_upto_region 1 with fail
    rw [← hw1]
    clear hw1
    go_wp2_with fail
    refine C.mono ?_
    rintro e w2 ⟨rfl, hb2⟩
    have hB2 := below_chain hB1 hb2 hB1.size
    go_wp2
    go_ret
    exact ⟨by rw [HNO.out (fun h => by rw [HF.out] at h; exact absurd h.1 (by simp))]; rfl, hB2⟩
  | true =>
  have hcases : (on = false ∧ 0 < q.length + m.length) ∨ (on = true ∧ m.length < q.length) ∨ (on = true ∧ ¬ m.length < q.length) ∨ (on = false ∧ q = [] ∧ m = []) := by
    cases on with
    | true => by_cases h : m.length < q.length
              · exact .inr (.inl ⟨rfl, h⟩)
              · exact .inr (.inr (.inl ⟨rfl, h⟩))
    | false => by_cases h : 0 < q.length + m.length
               · exact .inl ⟨rfl, h⟩
               · exact .inr (.inr (.inr ⟨rfl, List.length_eq_zero_iff.1 (by omega), List.length_eq_zero_iff.1 (by omega)⟩))
  rcases hcases with ⟨rfl, g1⟩ | ⟨rfl, g2⟩ | ⟨rfl, g2⟩ | ⟨rfl, rfl, rfl⟩
  · have hwr : IntKind.i64.wrap ((q.length : Int) + (m.length : Int)) = (q.length : Int) + (m.length : Int) := by rw [IntKind.wrap_i64]; omega
    have g1' : (0 : Int) < (q.length : Int) + (m.length : Int) := by omega
    go_enter Tryz.func7, Tryz.ntmps7
    go_upto_region 1 with fail
    rw [← hw1]
    clear hw1
    go_wp2_with fail
    refine C.mono ?_
    rintro e w2 ⟨rfl, hb2⟩
    have hB2 := below_chain hB1 hb2 hB1.size
    have hg2 := keptG hb2 hg1
    clear C y0 y1 y2 hg1 hb2 hB1
    obtain ⟨y0, y1, y2⟩ := gcells hg2
    go_wp2
    go_ret
    exact ⟨by rw [HNO.out (fun h => by rcases h.2.1 with h | ⟨h7, h8⟩; exact absurd h (by simp); rw [h7, h8] at g1; simp at g1)]; rfl, hB2⟩
  · have g2' : (m.length : Int) < (q.length : Int) := by omega
    go_enter Tryz.func7, Tryz.ntmps7
    go_upto_region 1 with fail
    rw [← hw1]
    clear hw1
    go_wp2_with fail
    refine C.mono ?_
    rintro e w2 ⟨rfl, hb2⟩
    have hB2 := below_chain hB1 hb2 hB1.size
    have hg2 := keptG hb2 hg1
    clear C y0 y1 y2 hg1 hb2 hB1
    obtain ⟨y0, y1, y2⟩ := gcells hg2
    go_wp2
    go_ret
    exact ⟨by rw [HNO.out (fun h => by have := nodup_len q m h.2.2.2 h.2.2.1; omega)]; rfl, hB2⟩
  · have g2' : ¬ (m.length : Int) < (q.length : Int) := by omega
    go_enter Tryz.func7, Tryz.ntmps7
    go_upto_region 1 with fail
    rw [← hw1]
    clear hw1
    go_wp2_with fail
    refine C.mono ?_
    rintro e w2 ⟨rfl, hb2⟩
    have hB2 := below_chain hB1 hb2 hB1.size
    have hg2 := keptG hb2 hg1
    clear C y0 y1 y2 hg1 hb2 hB1
    obtain ⟨y0, y1, y2⟩ := gcells hg2
    go_wp2
    go_loopw [3] (fun i wr => ∃ j : Nat, j ≤ q.length ∧ i = .int .i64 j ∧ (∀ x ∈ q.take j, x ∈ m) ∧ (q.take j).Nodup ∧ Below w2.heap.size w2 wr) (fun i _ => q.length - (intOf i).toNat)
    case atStart => exact ⟨0, Nat.zero_le _, rfl, by simp, by simp, Below.refl _ _⟩
    case round =>
      obtain ⟨j, hj, rfl, hsub, hnd, hB⟩ := hrel
      have HSUB := Lib.hid hsub
      have HND := Lib.hid hnd
      clear hsub hnd
      have hgr := keptG hB hg2
      have hBw := below_chain hB2 hB hB2.size
      by_cases h1 : j < q.length
      · have h1' : (j : Int) < (q.length : Int) := by omega
        have hjc : (j : Int) ≤ (qc : Int) := by omega
        have hjq : (j : Int) ≤ (q.length : Int) := by omega
        have hqx := HQX.out
        rcases hqx with hqx | ⟨b, o, rfl, hqx⟩
        · exfalso; rw [hqx] at h1; simp at h1
        have hc1 := cell_below hBw (str_cell hqx h1)
        have hrq := HQ.out.below hBw
        have hrt := hrq.take (n := j) (by omega)
        have CA := fun (p : LaterOf wr) => rhas_walk (.slice ma m.length mc) m q[j] p.world ((HM.out.below hBw).below p.below) (by omega)
        have CB := fun (p : LaterOf wr) => rhas_walk (.slice (some ⟨b, o, none⟩) j qc) (q.take j) q[j] p.world (hrt.below p.below) (by rw [List.length_take]; omega)
        have HTK := Lib.hid (List.take_succ_eq_append_getElem h1)
        have HQM := Lib.hid (show q[j] ∈ q from List.getElem_mem h1)
        have HNT := Lib.hid (fun (h : q.Nodup) => show q[j] ∉ q.take j from fun h7 => by
          have h8 := h.sublist (List.take_sublist (j + 1) q)
          rw [List.take_succ_eq_append_getElem h1, List.nodup_append] at h8
          exact h8.2.2 _ h7 _ (List.mem_singleton.2 rfl) rfl)
        obtain ⟨r1, hr1⟩ : ∃ r, decide (q[j] ∈ m) = r := ⟨_, rfl⟩
        obtain ⟨r2, hr2⟩ : ∃ r, decide (q[j] ∈ q.take j) = r := ⟨_, rfl⟩
        rw [hr1] at CA
        rw [hr2] at CB
        have HR1 := Lib.hid hr1
        have HR2 := Lib.hid hr2
        clear hqx hrq hrt hr1 hr2
        generalize q[j] = y at *
        obtain ⟨n0, n1, n2⟩ := gcells hgr
        have l0 := LaterOf.cell n0
        have l1 := LaterOf.cell n1
        have l2 := LaterOf.cell n2
        have l3 := LaterOf.cell hc1
        cases r1
        · go_upto_region 6 with fail
          (refine wp_region_later (by kernel_rfl) (by kernel_rfl) ?_; (repeat (go_big_quiet_step (first | (go_at_call 12; with_reducible exact LaterOf.call _ (CA _)) | (go_at_call 12; with_reducible exact LaterOf.call _ (CB _))))); refine wpQuiet_nil ?_; intro _ hw1; obtain ⟨lw, hw2⟩ := hw1; subst hw2)
          go_wp2
          go_ret
          exact ⟨by rw [HNO.out (fun h => of_decide_eq_false HR1.out (h.2.2.1 _ HQM.out))]; rfl, below_chain hBw lw.below hBw.size⟩
        · cases r2
          · go_upto_region 6 with fail
            (refine wp_region_later (by kernel_rfl) (by kernel_rfl) ?_; (repeat (go_big_quiet_step (first | (go_at_call 12; with_reducible exact LaterOf.call _ (CA _)) | (go_at_call 12; with_reducible exact LaterOf.call _ (CB _))))); refine wpQuiet_nil ?_; intro _ hw1; obtain ⟨lw, hw2⟩ := hw1; subst hw2)
            go_wp2
            go_roundw
            case rel =>
              refine ⟨j + 1, by omega, by go_num, fun x hx => ?_, ?_, below_chain hB lw.below hB.size⟩
              · rw [HTK.out, List.mem_append, List.mem_singleton] at hx
                rcases hx with hx | rfl
                · exact HSUB.out x hx
                · exact of_decide_eq_true HR1.out
              · rw [HTK.out, List.nodup_append]
                exact ⟨HND.out, by simp, fun a ha b hb => by rw [List.mem_singleton.1 hb]; rintro rfl; exact of_decide_eq_false HR2.out ha⟩
            case measure => simp [intOf]; omega
          · go_upto_region 6 with fail
            (refine wp_region_later (by kernel_rfl) (by kernel_rfl) ?_; (repeat (go_big_quiet_step (first | (go_at_call 12; with_reducible exact LaterOf.call _ (CA _)) | (go_at_call 12; with_reducible exact LaterOf.call _ (CB _))))); refine wpQuiet_nil ?_; intro _ hw1; obtain ⟨lw, hw2⟩ := hw1; subst hw2)
            go_wp2
            go_ret
            exact ⟨by rw [HNO.out (fun h => HNT.out h.2.2.2 (of_decide_eq_true HR2.out))]; rfl, below_chain hBw lw.below hBw.size⟩
      · have h1' : ¬ (j : Int) < (q.length : Int) := by omega
        obtain ⟨n0, n1, n2⟩ := gcells hgr
        go_wp2
        go_ret
        exact ⟨by rw [HYES.out ⟨HF.out, .inl (by trivial), by have := HSUB.out; rwa [List.take_of_length_le (by omega)] at this, by have := HND.out; rwa [List.take_of_length_le (by omega)] at this⟩]; rfl, hBw⟩
  · clear y0 y1 y2
    simp only [List.length_nil] at hw1 hg1 C
    obtain ⟨y0, y1, y2⟩ := gcells hg1
    go_enter Tryz.func7, Tryz.ntmps7
    go_upto_region 1 with fail
    rw [← hw1]
    clear hw1
    go_wp2_with fail
    refine C.mono ?_
    rintro e w2 ⟨rfl, hb2⟩
    have hB2 := below_chain hB1 hb2 hB1.size
    have hg2 := keptG hb2 hg1
    clear C y0 y1 y2 hg1 hb2 hB1
    obtain ⟨y0, y1, y2⟩ := gcells hg2
    go_wp2
    go_loopw [3] (fun i wr => i = .int .i64 0 ∧ wr = w2) (fun i _ => 0)
    case atStart => exact ⟨rfl, rfl⟩
    case round =>
      obtain ⟨rfl, rfl⟩ := hrel
      go_wp2
      go_ret
      exact ⟨by rw [HYES.out ⟨HF.out, .inr ⟨by trivial, by trivial⟩, by simp, by simp⟩]; rfl, hB2⟩


end Go.Proofs.YtengciicdnkgaaaGreatDoor
