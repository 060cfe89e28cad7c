/- A collection is told of a key: Note. -/
import Derived.Test.YthjoaoakadaieaaGcMark
namespace Go.Proofs.Ythjoaoakadaieaa
open Go.RowKit

def NotePost (on : Bool) (q m : List (List UInt8)) (k : List UInt8) (w : World) (e : Ending) (w' : World) : Prop :=
  ∃ qv' mv', e = .returned (GcV on qv' mv') ∧ StrRow w' qv' (noteQ on q m k) ∧ StrRow w' mv' (noteM on m k) ∧ Below w.heap.size w w'
theorem gcells {w : World} {b : Nat} {on : Bool} {qv mv : Value} (h : w.heap[b]? = some (GCells on qv mv)) : w.cell? ⟨b, 0, none⟩ = some (.bool on) ∧ w.cell? ⟨b, 1, none⟩ = some qv ∧ w.cell? ⟨b, 2, none⟩ = some mv :=
  ⟨heap_cell h (j := 0) (v := .bool on) rfl, heap_cell h (j := 1) (v := qv) rfl, heap_cell h (j := 2) (v := mv) rfl⟩
theorem mcells {w : World} {b : Nat} {on : Bool} {qv mv : Value} (h : MGBox w b on qv mv) : w.cell? ⟨b, 0, none⟩ = some (.bool on) ∧ w.cell? ⟨b, 1, none⟩ = some qv ∧ w.cell? ⟨b, 2, none⟩ = some mv :=
  ⟨heap_cell h (j := 0) (v := .bool on) rfl, heap_cell h (j := 1) (v := qv) rfl, heap_cell h (j := 2) (v := mv) rfl⟩
theorem RowAt.fin {b r : Nat} {w0 w : World} {v : Value} {xs : List (List UInt8)} (h : RowAt b w0 w v xs) (hb : Below w0.heap.size w0 w) (hr : r ≤ b) (hr0 : w0.heap.size ≤ r) (x y z : Value) :
    StrRow (((w.setCell ⟨r, 0, none⟩ x).setCell ⟨r, 1, none⟩ y).setCell ⟨r, 2, none⟩ z) v xs := by
  rcases h with h | h
  · exact h.below (below_setC (below_setC (below_setC hb hr0 0 _) hr0 1 _) hr0 2 _)
  · exact StrRow.of_owns (own_set (own_set (own_set h (by omega)) (by omega)) (by omega))

set_option maxHeartbeats 4000000 in
set_option maxRecDepth 100000 in
theorem gnote_walk (on : Bool) (qv mv : Value) (q m : List (List UInt8)) (k : List UInt8) (w : World) (hq : StrRow w qv q) (hm : StrRow w mv m) (hql : q.length ≤ 1000) (hml : m.length ≤ 1000) (hup : upS m) :
    Calls Try.prog 12 #[GcV on qv mv, S k] w (NotePost on q m k w) := by
  have HQ := Lib.hid hq
  have HM := Lib.hid hm
  obtain ⟨qa, qc, rfl, _⟩ := hq
  obtain ⟨ma, mc, rfl, _⟩ := hm
  obtain ⟨w1, hw1, hB1, hz1, hg1, hr1, hm1⟩ : ∃ w1, w1 = ((w.alloc (GCells on (.slice qa q.length qc) (.slice ma m.length mc))).alloc (GCells false (.slice none 0 0) (.slice none 0 0))).alloc (.cells #[.bool on, .slice qa q.length qc, .slice ma m.length mc] 65) ∧ Below w.heap.size w w1 ∧ w1.heap.size = w.heap.size + 1 + 1 + 1 ∧ w1.heap[w.heap.size]? = some (GCells on (.slice qa q.length qc) (.slice ma m.length mc)) ∧ w1.heap[w.heap.size + 1]? = some (GCells false (.slice none 0 0) (.slice none 0 0)) ∧ MGBox w1 (w.heap.size + 1 + 1) on (.slice qa q.length qc) (.slice ma m.length mc) := by
    refine ⟨_, rfl, (((Below.refl _ _).alloc (Nat.le_refl _) _).alloc (by simp) _).alloc (by simp; omega) _, by simp, ?_, ?_, ?_⟩
    · exact heap_old (heap_old (heap_alloc_new w _))
    · exact heap_old (heap_new' (by simp) _)
    · exact heap_new' (by simp) _
  go_enter Try.func12, Try.ntmps12
  go_upto_region 2 with fail
  rw [← hw1]
  clear hw1
  obtain ⟨y0, y1, y2⟩ := gcells hg1
  obtain ⟨r0, r1, r2⟩ := gcells hr1
  have s0 := is_some r0
  have s1 := is_some r1
  have s2 := is_some r2
  have f0 := heap_free hr1 0
  have f1 := heap_free hr1 1
  have f2 := heap_free hr1 2
  cases on with
  | false =>
    obtain ⟨m0, m1, m2⟩ := mcells hm1
    have e1 := Lib.hid (show noteQ false q m k = q from if_neg (fun h => by cases h.1))
    have e2 := Lib.hid (show noteM false m k = m from if_neg (fun h => by cases h.1))
    clear hup
    go_wp2
    refine bodyPost_ret (v := GcV false (.slice qa q.length qc) (.slice ma m.length mc)) (by simp [results, Try.results12, go_sem, s0, s1, s2]) rfl ?_
    have hB2 := below_setC (below_setC (below_setC hB1 (show w.heap.size ≤ w.heap.size + 1 by omega) 0 (.bool false)) (show w.heap.size ≤ w.heap.size + 1 by omega) 1 (.slice qa q.length qc)) (show w.heap.size ≤ w.heap.size + 1 by omega) 2 (.slice ma m.length mc)
    exact ⟨_, _, rfl, by rw [e1.out]; exact HQ.out.below hB2, by rw [e2.out]; exact HM.out.below hB2, hB2⟩
  | true =>
    clear s0 s1 s2 f0 f1 f2 r0 r1 r2
    have hbA : Below w.heap.size w (w1.alloc (.cells #[S k] 9)) := hB1.alloc (by omega) _
    have C := mark_walk (w.heap.size + 1 + 1) true (.slice qa q.length qc) (.slice ma m.length mc) (.slice (some ⟨w1.heap.size, 0, none⟩) 1 1) q m k w (w1.alloc (.cells #[S k] 9)) (heap_old hm1) HQ.out HM.out hbA (by omega) (by have h9 := row_lit w1 9 [k] (by simp); simpa using h9) hql hml hup
    rw [hz1] at C
    generalize hNQ : noteQ true q m k = Q' at *
    generalize hNM : noteM true m k = M' at *
    clear hup
    go_wp2_with fail
    refine C.mono ?_
    rintro e w2 ⟨rfl, qv', mv', hm2, hq2, hmm2, hB2⟩
    rw [hNQ] at hq2
    rw [hNM] at hmm2
    have hB2w : Below w.heap.size w w2 := hbA.trans (hB2.mono (by omega))
    have hr2 : w2.heap[w.heap.size + 1]? = some (GCells false (.slice none 0 0) (.slice none 0 0)) := (hB2.block _ (by omega)).trans (heap_old hr1)
    have hfin := fun x y z => hq2.fin hB2w (r := w.heap.size + 1) (by omega) (by omega) x y z
    have hfin2 := fun x y z => hmm2.fin hB2w (r := w.heap.size + 1) (by omega) (by omega) x y z
    have HF := Lib.hid hfin
    have HF2 := Lib.hid hfin2
    have hsq : ∃ a n c, qv' = .slice a n c := by obtain ⟨a, c, h, _⟩ := hfin (.bool true) (.bool true) (.bool true); exact ⟨_, _, _, h⟩
    have hsm : ∃ a n c, mv' = .slice a n c := by obtain ⟨a, c, h, _⟩ := hfin2 (.bool true) (.bool true) (.bool true); exact ⟨_, _, _, h⟩
    obtain ⟨a5, n5, c5, rfl⟩ := hsq
    obtain ⟨a6, n6, c6, rfl⟩ := hsm
    clear hfin hfin2 hq2 hmm2 C y0 y1 y2
    obtain ⟨m0, m1, m2⟩ := mcells hm2
    obtain ⟨r0, r1, r2⟩ := gcells hr2
    have s0 := is_some r0
    have s1 := is_some r1
    have s2 := is_some r2
    have f0 := heap_free hr2 0
    have f1 := heap_free hr2 1
    have f2 := heap_free hr2 2
    have HB2 := Lib.hid hB2w
    have HNQ := Lib.hid hNQ
    have HNM := Lib.hid hNM
    clear hm2 hr2 hB2w hB2 hNQ hNM
    go_wp2
    refine bodyPost_ret (v := GcV true (.slice a5 n5 c5) (.slice a6 n6 c6)) (by simp [results, Try.results12, go_sem, s0, s1, s2]) rfl ?_
    exact ⟨_, _, rfl, by rw [HNQ.out]; exact HF.out _ _ _, by rw [HNM.out]; exact HF2.out _ _ _, below_setC (below_setC (below_setC HB2.out (by omega) 0 _) (by omega) 1 _) (by omega) 2 _⟩
end Go.Proofs.Ythjoaoakadaieaa
