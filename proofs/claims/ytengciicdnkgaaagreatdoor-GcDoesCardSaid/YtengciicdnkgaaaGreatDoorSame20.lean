/- Whether two collections are the same, the program's and the reference's. -/
import Derived.Test.YtengciicdnkgaaaGreatDoorGcDefs
import Derived.Test.YtengciicdnkgaaaGreatDoorShelf
import Derived.Test.YtengciicdnkgaaaGreatDoorJTail
namespace Go.Proofs.YtengciicdnkgaaaGreatDoor
open Go.RowKit

theorem bytes_inj {x y : List UInt8} (h : (⟨x.toArray⟩ : ByteArray) = ⟨y.toArray⟩) : x = y := by
  injection h with h
  simpa using h
theorem map_bytes_inj : ∀ {l m : List (List UInt8)}, l.map (fun x => (⟨x.toArray⟩ : ByteArray)) = m.map (fun x => ⟨x.toArray⟩) → l = m
  | [], [], _ => rfl
  | [], _ :: _, h => by simp at h
  | _ :: _, [], h => by simp at h
  | x :: l, y :: m, h => by
    rw [List.map_cons, List.map_cons, List.cons.injEq] at h
    rw [bytes_inj h.1, map_bytes_inj h.2]
theorem sequal_walk (v v2 : Value) (l m : List (List UInt8)) (w : World) (hr : StrRow w v l) (hr2 : StrRow w v2 m) (hcnt : l.length ≤ 1100000) (hcnt2 : m.length ≤ 1100000) :
    Calls Tryz.prog 40 #[v, v2] w fun e w' => e = .returned (.bool (decide (l = m))) ∧ Below w.heap.size w w' := by
  obtain ⟨a, c, rfl, hc, hm, hx⟩ := hr
  obtain ⟨a2, c2, rfl, hc2, hm2, hx2⟩ := hr2
  by_cases hl : l.length = m.length
  · rcases hx with rfl | ⟨b, o, rfl, hx⟩
    · have hme : m = [] := List.length_eq_zero_iff.1 (by simpa using hl.symm)
      subst hme
      refine (Tryz.slices_Equal_string_empty a a2 c 0 c2 w (by omega)).mono fun e w' ⟨h1, h2⟩ => ⟨by rw [h1]; simp, by rw [h2]; exact Below.refl _ _⟩
    · rcases hx2 with rfl | ⟨b2, o2, rfl, hx2⟩
      · have hle : l = [] := List.length_eq_zero_iff.1 (by simpa using hl)
        subst hle
        refine (Tryz.slices_Equal_string_empty (some ⟨b, o, none⟩) a2 c 0 c2 w (by omega)).mono fun e w' ⟨h1, h2⟩ => ⟨by rw [h1]; simp, by rw [h2]; exact Below.refl _ _⟩
      · refine (Tryz.slices_Equal_string b o l.length c b2 o2 m.length c2 (l.map fun x => ⟨x.toArray⟩) (m.map fun x => ⟨x.toArray⟩) w (by simp) (by simp) (by omega) (by omega) (fun j hj => ?_) (fun j hj => ?_)).mono fun e w' ⟨h1, q, h2⟩ => ⟨?_, by rw [h2]; exact belowN (Below.refl _ _) q⟩
        · have hj2 : j < l.length := by simpa using hj
          have h := hx j l[j] (by simp [hj2])
          rw [h]
          simp [List.getD, hj2, S]
        · have hj2 : j < m.length := by simpa using hj
          have h := hx2 j m[j] (by simp [hj2])
          rw [h]
          simp [List.getD, hj2, S]
        · rw [h1, List.take_of_length_le (by simp), List.take_of_length_le (by simp)]
          by_cases he : l = m
          · subst he; simp
          · rw [decide_eq_false he, decide_eq_false (fun h => he (map_bytes_inj h))]
  · refine (Tryz.slices_Equal_string_lens a a2 l.length c m.length c2 w hl).mono fun e w' ⟨h1, h2⟩ => ⟨?_, by rw [h2]; exact Below.refl _ _⟩
    rw [h1, decide_eq_false (fun h => hl (by rw [h]))]

def sameG (on on2 : Bool) (q q2 m m2 : List (List UInt8)) : Bool := on == on2 && (decide (q = q2) && decide (m = m2))

set_option maxHeartbeats 4000000 in
set_option maxRecDepth 100000 in
theorem psamex20_walk (on on2 : Bool) (qv mv qv2 mv2 : Value) (q m q2 m2 : List (List UInt8)) (w : World) (hq : StrRow w qv q) (hm : StrRow w mv m) (hq2 : StrRow w qv2 q2) (hm2 : StrRow w mv2 m2) (hql : q.length ≤ 1099000) (hml : m.length ≤ 1099000) (hql2 : q2.length ≤ 1099000) (hml2 : m2.length ≤ 1099000) :
    Calls Tryz.prog 19 #[GcV on qv mv, GcV on2 qv2 mv2] w fun e w' => e = .returned (.bool (sameG on on2 q q2 m m2)) ∧ Below w.heap.size w w' := by
  have HQ := Lib.hid hq
  have HM := Lib.hid hm
  have HQ2 := Lib.hid hq2
  have HM2 := Lib.hid hm2
  obtain ⟨qa, qc, rfl, _⟩ := hq
  obtain ⟨ma, mc, rfl, _⟩ := hm
  obtain ⟨qa2, qc2, rfl, _⟩ := hq2
  obtain ⟨ma2, mc2, rfl, _⟩ := hm2
  obtain ⟨w1, hw1, hB1, hz1, hg1, hr1⟩ : ∃ w1, w1 = (w.alloc (GCells on (.slice qa q.length qc) (.slice ma m.length mc))).alloc (GCells on2 (.slice qa2 q2.length qc2) (.slice ma2 m2.length mc2)) ∧ Below w.heap.size w w1 ∧ w1.heap.size = w.heap.size + 1 + 1 ∧ w1.heap[w.heap.size]? = some (GCells on (.slice qa q.length qc) (.slice ma m.length mc)) ∧ w1.heap[w.heap.size + 1]? = some (GCells on2 (.slice qa2 q2.length qc2) (.slice ma2 m2.length mc2)) := by
    refine ⟨_, rfl, ((Below.refl _ _).alloc (Nat.le_refl _) _).alloc (by simp) _, by simp, ?_, ?_⟩
    · exact heap_old (heap_alloc_new w _)
    · exact heap_new' (by simp) _
  clear hz1
  have C := sequal_walk (.slice qa q.length qc) (.slice qa2 q2.length qc2) q q2 w1 (HQ.out.below hB1) (HQ2.out.below hB1) (by omega) (by omega)
  have HD := Lib.hid (show sameG on on2 q q2 m m2 = (on == on2 && (decide (q = q2) && decide (m = m2))) from rfl)
  obtain ⟨y0, y1, y2⟩ := gcells hg1
  obtain ⟨z0, z1, z2⟩ := gcells hr1
  cases ho : (on == on2) with
  | false =>
    have HF := Lib.hid (show sameG on on2 q q2 m m2 = false by rw [HD.out, ho]; rfl)
    clear C HD
    go_enter Tryz.func19, Tryz.ntmps19
    go_upto_region 1 with fail
    rw [← hw1]
    clear hw1
    go_wp2
    go_ret
    exact ⟨by rw [HF.out]; rfl, hB1⟩
  | true =>
  cases hd : decide (q = q2) with
  | false =>
    have HF := Lib.hid (show sameG on on2 q q2 m m2 = false by rw [HD.out, ho, hd]; rfl)
    rw [hd] at C
    clear HD hd
    go_enter Tryz.func19, Tryz.ntmps19
    go_upto_region 1 with fail
    rw [← hw1]
    clear hw1
    go_wp2_with fail
    refine C.mono ?_
    rintro e w2 ⟨rfl, hb2⟩
    have hB2 := below_chain hB1 hb2 hB1.size
    clear C hb2 y0 y1 y2 z0 z1 z2
    go_wp2
    go_ret
    exact ⟨by rw [HF.out]; rfl, hB2⟩
  | true =>
    have HF := Lib.hid (show sameG on on2 q q2 m m2 = decide (m = m2) by rw [HD.out, ho, hd]; rfl)
    rw [hd] at C
    clear HD hd
    go_enter Tryz.func19, Tryz.ntmps19
    go_upto_region 1 with fail
    rw [← hw1]
    clear hw1
    go_wp2_with fail
    refine C.mono ?_
    rintro e w2 ⟨rfl, hb2⟩
    have hB2 := below_chain hB1 hb2 hB1.size
    have hg2 := keptG hb2 hg1
    have hr2 := keptG hb2 hr1
    clear C hb2 y0 y1 y2 z0 z1 z2
    obtain ⟨y0, y1, y2⟩ := gcells hg2
    obtain ⟨z0, z1, z2⟩ := gcells hr2
    have C := sequal_walk (.slice ma m.length mc) (.slice ma2 m2.length mc2) m m2 w2 (HM.out.below hB2) (HM2.out.below hB2) (by omega) (by omega)
    generalize decide (m = m2) = dm at *
    go_wp2_with fail
    refine C.mono ?_
    rintro e w3 ⟨rfl, hb3⟩
    have hB3 := below_chain hB2 hb3 hB2.size
    clear C hb3
    go_wp2
    go_ret
    exact ⟨by rw [HF.out]; rfl, hB3⟩

set_option maxHeartbeats 4000000 in
set_option maxRecDepth 100000 in
theorem rsamex20_walk (on on2 : Bool) (qv mv qv2 mv2 : Value) (q m q2 m2 : List (List UInt8)) (w : World) (hq : StrRow w qv q) (hm : StrRow w mv m) (hq2 : StrRow w qv2 q2) (hm2 : StrRow w mv2 m2) (hql : q.length ≤ 1099000) (hml : m.length ≤ 1099000) (_hql2 : q2.length ≤ 1099000) (_hml2 : m2.length ≤ 1099000) :
    Calls Tryz.prog 10 #[GcV on qv mv, GcV on2 qv2 mv2] w fun e w' => e = .returned (.bool (sameG on on2 q q2 m m2)) ∧ Below w.heap.size w w' := by
  have HQ := Lib.hid hq
  have HM := Lib.hid hm
  have HQ2 := Lib.hid hq2
  have HM2 := Lib.hid hm2
  obtain ⟨qa, qc, rfl, _⟩ := hq
  obtain ⟨ma, mc, rfl, _⟩ := hm
  obtain ⟨qa2, qc2, rfl, _⟩ := hq2
  obtain ⟨ma2, mc2, rfl, _⟩ := hm2
  obtain ⟨w1, hw1, hB1, hz1, hg1, hr1⟩ : ∃ w1, w1 = (w.alloc (GCells on (.slice qa q.length qc) (.slice ma m.length mc))).alloc (GCells on2 (.slice qa2 q2.length qc2) (.slice ma2 m2.length mc2)) ∧ Below w.heap.size w w1 ∧ w1.heap.size = w.heap.size + 1 + 1 ∧ w1.heap[w.heap.size]? = some (GCells on (.slice qa q.length qc) (.slice ma m.length mc)) ∧ w1.heap[w.heap.size + 1]? = some (GCells on2 (.slice qa2 q2.length qc2) (.slice ma2 m2.length mc2)) := by
    refine ⟨_, rfl, ((Below.refl _ _).alloc (Nat.le_refl _) _).alloc (by simp) _, by simp, ?_, ?_⟩
    · exact heap_old (heap_alloc_new w _)
    · exact heap_new' (by simp) _
  clear hz1
  have C := rsame5_walk (.slice qa q.length qc) (.slice qa2 q2.length qc2) q q2 w1 (HQ.out.below hB1) (HQ2.out.below hB1) (by omega)
  have HD := Lib.hid (show sameG on on2 q q2 m m2 = (on == on2 && (decide (q = q2) && decide (m = m2))) from rfl)
  obtain ⟨y0, y1, y2⟩ := gcells hg1
  obtain ⟨z0, z1, z2⟩ := gcells hr1
  cases ho : (on == on2) with
  | false =>
    have HF := Lib.hid (show sameG on on2 q q2 m m2 = false by rw [HD.out, ho]; rfl)
    clear C HD
    go_enter Tryz.func10, Tryz.ntmps10
    go_upto_region 1 with fail
    rw [← hw1]
    clear hw1
    go_wp2
    go_ret
    exact ⟨by rw [HF.out]; rfl, hB1⟩
  | true =>
  cases hd : decide (q = q2) with
  | false =>
    have HF := Lib.hid (show sameG on on2 q q2 m m2 = false by rw [HD.out, ho, hd]; rfl)
    rw [hd] at C
    clear HD hd
    go_enter Tryz.func10, Tryz.ntmps10
    go_upto_region 1 with fail
    rw [← hw1]
    clear hw1
    go_wp2_with fail
    refine C.mono ?_
    rintro e w2 ⟨rfl, hb2⟩
    have hB2 := below_chain hB1 hb2 hB1.size
    clear C hb2 y0 y1 y2 z0 z1 z2
    go_wp2
    go_ret
    exact ⟨by rw [HF.out]; rfl, hB2⟩
  | true =>
    have HF := Lib.hid (show sameG on on2 q q2 m m2 = decide (m = m2) by rw [HD.out, ho, hd]; rfl)
    rw [hd] at C
    clear HD hd
    go_enter Tryz.func10, Tryz.ntmps10
    go_upto_region 1 with fail
    rw [← hw1]
    clear hw1
    go_wp2_with fail
    refine C.mono ?_
    rintro e w2 ⟨rfl, hb2⟩
    have hB2 := below_chain hB1 hb2 hB1.size
    have hg2 := keptG hb2 hg1
    have hr2 := keptG hb2 hr1
    clear C hb2 y0 y1 y2 z0 z1 z2
    obtain ⟨y0, y1, y2⟩ := gcells hg2
    obtain ⟨z0, z1, z2⟩ := gcells hr2
    have C := rsame5_walk (.slice ma m.length mc) (.slice ma2 m2.length mc2) m m2 w2 (HM.out.below hB2) (HM2.out.below hB2) (by omega)
    generalize decide (m = m2) = dm at *
    go_wp2_with fail
    refine C.mono ?_
    rintro e w3 ⟨rfl, hb3⟩
    have hB3 := below_chain hB2 hb3 hB2.size
    clear C hb3
    go_wp2
    go_ret
    exact ⟨by rw [HF.out]; rfl, hB3⟩

end Go.Proofs.YtengciicdnkgaaaGreatDoor
