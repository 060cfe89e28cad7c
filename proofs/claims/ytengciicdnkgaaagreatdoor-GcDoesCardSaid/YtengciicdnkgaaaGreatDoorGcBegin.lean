/- Collections begin; a collection is told of a key (by the walk of any list). -/
import Derived.Test.YtengciicdnkgaaaGreatDoorGcMarkL
import Derived.Test.YtengciicdnkgaaaGreatDoorJKids
namespace Go.Proofs.YtengciicdnkgaaaGreatDoor
open Go.RowKit

theorem RowN.of_boxG {w : World} {b : Nat} {on : Bool} {qa ma : Option Addr} {qn qc mn mc : Nat} {v : Value} {xs : List (List UInt8)} (h : StrRow w v xs) (hm : w.heap[b]? = some (GCells on (.slice qa qn qc) (.slice ma mn mc))) : RowN b w v xs := by
  obtain ⟨a, c, hv, hc, hmx, hx⟩ := h
  refine ⟨a, c, hv, hc, hmx, ?_⟩
  rcases hx with hx | ⟨g, o, ha, hx⟩
  · exact .inl hx
  · cases xs with
    | nil => exact .inl rfl
    | cons x xs =>
      refine .inr ⟨g, o, ha, ?_, hx⟩
      rintro rfl
      have h0 := hx 0 x rfl
      simp only [World.cell?, hm, Nat.add_zero] at h0
      match o, h0 with
      | 0, h0 => simp at h0
      | 1, h0 => simp at h0
      | 2, h0 => simp at h0
      | o + 3, h0 => simp at h0
theorem RowN.of_box2 {w : World} {b : Nat} {on : Bool} {qa ma : Option Addr} {qn qc mn mc : Nat} {v : Value} {xs : List (List UInt8)} (h : StrRow w v xs) (hm : MGBox w b on (.slice qa qn qc) (.slice ma mn mc)) : RowN b w v xs := by
  obtain ⟨a, c, hv, hc, hmx, hx⟩ := h
  refine ⟨a, c, hv, hc, hmx, ?_⟩
  rcases hx with hx | ⟨g, o, ha, hx⟩
  · exact .inl hx
  · cases xs with
    | nil => exact .inl rfl
    | cons x xs =>
      refine .inr ⟨g, o, ha, ?_, hx⟩
      rintro rfl
      have h0 := hx 0 x rfl
      simp only [World.cell?, hm, Nat.add_zero] at h0
      match o, h0 with
      | 0, h0 => simp at h0
      | 1, h0 => simp at h0
      | 2, h0 => simp at h0
      | o + 3, h0 => simp at h0

def BegPost (s : List (List UInt8)) (w : World) (e : Ending) (w' : World) : Prop :=
  ∃ qv mv, e = .returned (GcV true qv mv) ∧ StrRow w' qv s ∧ StrRow w' mv s ∧ Below w.heap.size w w'

set_option maxHeartbeats 4000000 in
set_option maxRecDepth 100000 in
theorem gbegin_walk (v : Value) (l : List (List UInt8)) (w : World) (hr : StrRow w v l) (hcnt : l.length ≤ 1000000) :
    Calls Tryz.prog 13 #[v] w (BegPost (setOf l) w) := by
  obtain ⟨w1, hw1, hB1, hg1⟩ : ∃ w1, w1 = w.alloc (GCells false (.slice none 0 0) (.slice none 0 0)) ∧ Below w.heap.size w w1 ∧ w1.heap[w.heap.size]? = some (GCells false (.slice none 0 0) (.slice none 0 0)) :=
    ⟨_, rfl, (Below.refl _ _).alloc (Nat.le_refl _) _, heap_alloc_new w _⟩
  have C1 := kof_walk v l w1 (hr.below hB1) (by omega)
  have HSL := Lib.hid (Nat.le_trans (setOf_len l) hcnt)
  generalize setOf l = s at *
  clear hr hcnt
  go_enter Tryz.func13, Tryz.ntmps13
  go_upto_region 1 with fail
  rw [← hw1]
  clear hw1
  go_wp2_with fail
  refine C1.mono ?_
  rintro e w2 ⟨v2, rfl, hr2, hb2⟩
  have hB2 := below_chain hB1 hb2 hB1.size
  have hg2 := keptG hb2 hg1
  have C2 := kclone_walk v2 s w2 hr2 (Nat.le_trans HSL.out (by omega))
  have HR2 := Lib.hid hr2
  obtain ⟨a2, c2, rfl, -⟩ := hr2
  clear C1 hb2 hg1 hB1
  go_wp2_with fail
  refine C2.mono ?_
  rintro e w3 ⟨v3, rfl, hown3, hb3⟩
  have hg3 := keptG hb3 hg2
  have HR3 := Lib.hid (StrRow.of_owns hown3)
  obtain ⟨a3, n3, c3, rfl⟩ := own_slice hown3
  have hlt3 := hown3.lt
  have HB3 := Lib.hid (below_chain hB2 hb3 hB2.size)
  have HRQ := Lib.hid (HR2.out.below hb3)
  have HG3 := Lib.hid hg3
  obtain ⟨r0, r1, r2⟩ := gcells hg3
  have s0 := is_some r0
  have s1 := is_some r1
  have s2 := is_some r2
  have f0 := heap_free hg3 0
  have f1 := heap_free hg3 1
  have f2 := heap_free hg3 2
  have HW2 := Lib.hid (heap_lt hg2)
  have HOWN := Lib.hid hown3
  have HRWN := Lib.hid (RowN.of_boxG HRQ.out HG3.out)
  have HRMN := Lib.hid (RowN.of_boxG HR3.out HG3.out)
  clear C2 hown3 hb3 hg2 hB2 hg3 hlt3
  go_wp2
  refine bodyPost_ret (v := GcV true (.slice a2 s.length c2) (.slice a3 n3 c3)) (by simp [results, Tryz.results13, go_sem, s0, s1, s2]) rfl ?_
  exact ⟨_, _, rfl, (((HRWN.out.set).set).set).row, (((HRMN.out.set).set).set).row, below_setC (below_setC (below_setC HB3.out (Nat.le_refl _) 0 _) (Nat.le_refl _) 1 _) (Nat.le_refl _) 2 _⟩

def NoteLPost (on : Bool) (q m : List (List UInt8)) (k : List UInt8) (w : World) (e : Ending) (w' : World) : Prop :=
  ∃ qv' mv', e = .returned (GcV on qv' mv') ∧ StrRow w' qv' (noteQ on q m k) ∧ StrRow w' mv' (noteM on m k) ∧ Below w.heap.size w w'

set_option maxHeartbeats 4000000 in
set_option maxRecDepth 100000 in
theorem gnoteL_walk (on : Bool) (qv mv : Value) (q m : List (List UInt8)) (k : List UInt8) (w : World) (hq : StrRow w qv q) (hm : StrRow w mv m) (hql : q.length ≤ 1000000) (hml : m.length ≤ 1000000) (hup : upS m) :
    Calls Tryz.prog 14 #[GcV on qv mv, S k] w (NoteLPost on q m k w) := by
  have HQ := Lib.hid hq
  have HM := Lib.hid hm
  obtain ⟨qa, qc, rfl, _⟩ := hq
  obtain ⟨ma, mc, rfl, _⟩ := hm
  obtain ⟨w1, hw1, hB1, hz1, hg1, hr1, hm1⟩ : ∃ w1, w1 = ((w.alloc (GCells on (.slice qa q.length qc) (.slice ma m.length mc))).alloc (GCells false (.slice none 0 0) (.slice none 0 0))).alloc (.cells #[.bool on, .slice qa q.length qc, .slice ma m.length mc] 45) ∧ Below w.heap.size w w1 ∧ w1.heap.size = w.heap.size + 1 + 1 + 1 ∧ w1.heap[w.heap.size]? = some (GCells on (.slice qa q.length qc) (.slice ma m.length mc)) ∧ w1.heap[w.heap.size + 1]? = some (GCells false (.slice none 0 0) (.slice none 0 0)) ∧ MGBox w1 (w.heap.size + 1 + 1) on (.slice qa q.length qc) (.slice ma m.length mc) := by
    refine ⟨_, rfl, (((Below.refl _ _).alloc (Nat.le_refl _) _).alloc (by simp) _).alloc (by simp; omega) _, by simp, ?_, ?_, ?_⟩
    · exact heap_old (heap_old (heap_alloc_new w _))
    · exact heap_old (heap_new' (by simp) _)
    · exact heap_new' (by simp) _
  go_enter Tryz.func14, Tryz.ntmps14
  go_upto_region 2 with fail
  rw [← hw1]
  clear hw1
  obtain ⟨y0, y1, y2⟩ := gcells hg1
  obtain ⟨r0, r1, r2⟩ := gcells hr1
  have s0 := is_some r0
  have s1 := is_some r1
  have s2 := is_some r2
  have f0 := heap_free hr1 0
  have f1 := heap_free hr1 1
  have f2 := heap_free hr1 2
  cases on with
  | false =>
    obtain ⟨m0, m1, m2⟩ := mcells hm1
    have e1 := Lib.hid (show noteQ false q m k = q from if_neg (fun h => by cases h.1))
    have e2 := Lib.hid (show noteM false m k = m from if_neg (fun h => by cases h.1))
    clear hup
    go_wp2
    refine bodyPost_ret (v := GcV false (.slice qa q.length qc) (.slice ma m.length mc)) (by simp [results, Tryz.results14, go_sem, s0, s1, s2]) rfl ?_
    have hB2 := below_setC (below_setC (below_setC hB1 (show w.heap.size ≤ w.heap.size + 1 by omega) 0 (.bool false)) (show w.heap.size ≤ w.heap.size + 1 by omega) 1 (.slice qa q.length qc)) (show w.heap.size ≤ w.heap.size + 1 by omega) 2 (.slice ma m.length mc)
    exact ⟨_, _, rfl, by rw [e1.out]; exact HQ.out.below hB2, by rw [e2.out]; exact HM.out.below hB2, hB2⟩
  | true =>
    clear s0 s1 s2 f0 f1 f2 r0 r1 r2
    have hbA : Below w.heap.size w (w1.alloc (.cells #[S k] 9)) := hB1.alloc (by omega) _
    have hg9 := heap_old (o := .cells #[S k] 9) hm1
    have C := markL_walk (w.heap.size + 1 + 1) true (.slice qa q.length qc) (.slice ma m.length mc) (.slice (some ⟨w1.heap.size, 0, none⟩) 1 1) q m [k] (w1.alloc (.cells #[S k] 9)) hg9 (RowN.of_box2 (HQ.out.below hbA) hg9) (RowN.of_box2 (HM.out.below hbA) hg9) (RowN.of_box2 (by have h9 := row_lit w1 9 [k] (by simp); simpa using h9) hg9) (by simp; omega) (by simp; omega) hup
    have e0 : notesS q m [k] = (noteQ true q m k, noteM true m k) := rfl
    rw [e0] at C
    rw [hz1] at C
    generalize hNQ : noteQ true q m k = Q' at *
    generalize hNM : noteM true m k = M' at *
    clear hup e0 hg9
    go_wp2_with fail
    refine C.mono ?_
    rintro e w2 ⟨rfl, qv', mv', hm2, hq2, hmm2, -, hB2⟩
    have hB2w : Below w.heap.size w w2 := hbA.trans (hB2.mono (by omega))
    have hr2 : w2.heap[w.heap.size + 1]? = some (GCells false (.slice none 0 0) (.slice none 0 0)) := (hB2.block _ (by omega)).trans (heap_old hr1)
    have HQ2 := Lib.hid (RowN.of_boxG hq2.row hr2)
    have HM2 := Lib.hid (RowN.of_boxG hmm2.row hr2)
    obtain ⟨a5, c5, rfl, -⟩ := hq2
    obtain ⟨a6, c6, rfl, -⟩ := hmm2
    clear C y0 y1 y2
    obtain ⟨m0, m1, m2⟩ := mcells hm2
    obtain ⟨r0, r1, r2⟩ := gcells hr2
    have s0 := is_some r0
    have s1 := is_some r1
    have s2 := is_some r2
    have f0 := heap_free hr2 0
    have f1 := heap_free hr2 1
    have f2 := heap_free hr2 2
    have HB2 := Lib.hid hB2w
    have HNQ := Lib.hid hNQ
    have HNM := Lib.hid hNM
    clear hm2 hr2 hB2w hB2 hNQ hNM hm1 hr1 hg1
    go_wp2
    refine bodyPost_ret (v := GcV true (.slice a5 Q'.length c5) (.slice a6 M'.length c6)) (by simp [results, Tryz.results14, go_sem, s0, s1, s2]) rfl ?_
    exact ⟨_, _, rfl, by rw [HNQ.out]; exact (((HQ2.out.set).set).set).row, by rw [HNM.out]; exact (((HM2.out.set).set).set).row, below_setC (below_setC (below_setC HB2.out (by omega) 0 _) (by omega) 1 _) (by omega) 2 _⟩
end Go.Proofs.YtengciicdnkgaaaGreatDoor
