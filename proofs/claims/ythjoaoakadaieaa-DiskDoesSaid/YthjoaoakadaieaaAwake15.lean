/- Chapter 15's example. -/
import Derived.Test.YthjoaoakadaieaaPSync
import Derived.Test.YthjoaoakadaieaaPCrash
namespace Go.Proofs.Ythjoaoakadaieaa
open Go.RowKit

/-- What a fit disk's files are. -/
structure FitL (l : List DF) (off : Bool) (fuse : Int) : Prop where
  len : l.length ≤ 8
  up : upS (l.map DF.name)
  ok : ∀ x ∈ l, badF x.lo = false
  f1 : -1 ≤ fuse
  f2 : fuse ≤ 1048576
  off : off = true → fuse = -1
theorem fit_get {l : List DF} {off : Bool} {fuse : Int} (h : fitD (los l, off, fuse) = true) : FitL l off fuse := by
  simp only [fitD, Bool.and_eq_true, Bool.not_eq_true', los_len, los_names] at h
  obtain ⟨h1, h2, h3⟩ := h
  simp only [headBad, Bool.or_eq_false_iff, decide_eq_false_iff_not, Bool.and_eq_false_iff, bne_eq_false_iff_eq] at h1
  obtain ⟨g1, g2, g3, g4⟩ := h1
  refine ⟨by omega, upN_pairs _ h2, fun x hx => ?_, by omega, by omega, fun ho => ?_⟩
  · have := List.any_eq_false.1 h3 x.lo (List.mem_map_of_mem hx)
    simpa using this
  · rcases g4 with g4 | g4
    · rw [ho] at g4; cases g4
    · exact g4
theorem FitL.opsl {l : List DF} {off : Bool} {fuse : Int} (h : FitL l off fuse) : ∀ x ∈ l, x.ops.length ≤ 1000 := fun x hx => by
  have := ((badF_iff _).1 (h.ok x hx)).2.1; simp only [DF.lo] at this; omega

theorem aw1 : writeD ([], false, -1) [102] 0 [97, 98] = (([([102], [], [(0, [97, 98])])], false, -1), 0) := by kernel_rfl
theorem aw2 : syncD ([([102], [], [(0, [97, 98])])], false, -1) [102] = (([([102], [97, 98], [])], false, -1), 0) := by kernel_rfl
theorem aw3 : writeD ([([102], [97, 98], [])], false, -1) [102] 1 [99] = (([([102], [97, 98], [(1, [99])])], false, -1), 0) := by kernel_rfl
theorem aw4 : readD ([([102], [97, 98], [(1, [99])])], false, -1) [102] = ([97, 99], true) := by decide
theorem aw5 : crashL [([102], [97, 98], [(1, [99])])] [] = [([102], [97, 98], [])] := by decide
theorem aw6 : readD ([([102], [97, 98], [])], false, -1) [102] = ([97, 98], true) := by decide
theorem awf1 : fitD ([([102], [], [(0, [97, 98])])], false, -1) = true := by decide
theorem awf2 : fitD ([([102], [97, 98], [])], false, -1) = true := by decide
theorem awf3 : fitD ([([102], [97, 98], [(1, [99])])], false, -1) = true := by decide

/-- The box of a caller, apart from what its files read. -/
theorem filesz_box {w : World} {v : Value} {l : List DF} (h : FilesR w v l) (X : Obj) : FilesZ (fun k => k = w.heap.size) (w.alloc X) v l := fun W hW =>
  ⟨h.1.keep (fun k hk => (hW k (by rw [World.size_alloc]; omega) (by omega)).trans (Below.heap_alloc _ _ _ hk)), fun x hx => (h.2 x hx).keep (fun k hk => (hW k (by rw [World.size_alloc]; omega) (by omega)).trans (Below.heap_alloc _ _ _ hk))⟩
/-- .. and behind a store into that box. -/
theorem filesz_store {b : Nat} {w W : World} {v : Value} {l : List DF} (h : FilesZ (fun k => k = b) w v l) (hs : W.heap.size = w.heap.size) (hk : ∀ k, k ≠ b → W.heap[k]? = w.heap[k]?) : FilesZ (fun k => k = b) W v l := fun W' hW =>
  h W' (fun k h1 h2 => (hW k (by omega) h2).trans (hk k h2))
abbrev DCells (v : Value) (off : Bool) (fuse : Int) : Obj := .cells #[v, .bool off, .int .i64 fuse] 35 (0, 0)
theorem dbox_store {w : World} {b : Nat} {v v2 : Value} {off off2 : Bool} {fuse fuse2 : Int} (h : w.heap[b]? = some (DCells v off fuse)) : (((w.setCell ⟨b, 0, none⟩ v2).setCell ⟨b, 1, none⟩ (.bool off2)).setCell ⟨b, 2, none⟩ (.int .i64 fuse2)).heap[b]? = some (DCells v2 off2 fuse2) := by
  have := heap_set_cell (o := 2) (heap_set_cell (o := 1) (heap_set_cell (o := 0) h v2) (.bool off2)) (.int .i64 fuse2)
  simpa using this
theorem set3_other {w : World} {b : Nat} {v : Value} {off : Bool} {fuse : Int} : ∀ k, k ≠ b → (((w.setCell ⟨b, 0, none⟩ v).setCell ⟨b, 1, none⟩ (.bool off)).setCell ⟨b, 2, none⟩ (.int .i64 fuse)).heap[k]? = w.heap[k]? :=
  fun k hk => ((Below.heap_setCell _ _ _ _ hk).trans (Below.heap_setCell _ _ _ _ hk)).trans (Below.heap_setCell _ _ _ _ hk)
theorem set3_size {w : World} {b : Nat} {v : Value} {off : Bool} {fuse : Int} : (((w.setCell ⟨b, 0, none⟩ v).setCell ⟨b, 1, none⟩ (.bool off)).setCell ⟨b, 2, none⟩ (.int .i64 fuse)).heap.size = w.heap.size := by
  rw [size_setCell', size_setCell', size_setCell']

set_option maxHeartbeats 8000000 in
set_option maxRecDepth 100000 in
theorem awake15_walk (w : World) : Calls Try.prog 19 #[] w fun e w' => e = .returned (.bool true) ∧ Below w.heap.size w w' := by
  have C1 := pwrite15_walk (fun _ => False) (.slice none 0 0) false (-1) [] [102] 0 [97, 98] w (fun k h => h.elim) (FilesZ.of ⟨Row.nil _ _, by simp⟩) (by simp) List.Pairwise.nil (by omega) (by omega) (by simp) (by simp) (by simp)
  rw [show los [] = [] from rfl, aw1] at C1
  go_enter Try.func19, Try.ntmps19
  go_wp2_with fail
  refine C1.mono ?_
  rintro e w1 ⟨v1, o1, f1, l1, e1, rfl, hr1, hres1, hb1⟩
  obtain ⟨⟨h1, rfl, rfl⟩, rfl⟩ : (los l1 = _ ∧ o1 = false ∧ f1 = -1) ∧ e1 = 0 := by
    simp only [Prod.mk.injEq] at hres1
    exact ⟨⟨hres1.1.1.symm, hres1.1.2.1.symm, hres1.1.2.2.symm⟩, hres1.2.symm⟩
  have F1 := fit_get (l := l1) (off := false) (fuse := -1) (by rw [h1]; exact awf1)
  have C2 := psync_walk (fun k => k = w1.heap.size) v1 false (-1) l1 [102] (w1.alloc (DCells v1 false (-1))) (fun k h => by rw [World.size_alloc]; omega) (filesz_box hr1.here _) (by have := F1.len; omega) F1.up (by omega) (by omega) F1.ok
  rw [h1, aw2] at C2
  obtain ⟨⟨a1, c1, rfl, _⟩, _⟩ := hr1.here
  have hx1 := heap_alloc_new w1 (DCells (.slice a1 l1.length c1) false (-1))
  have hB1 : Below w.heap.size w (w1.alloc (DCells (.slice a1 l1.length c1) false (-1))) := hb1.alloc hb1.size _
  have hz1 : w.heap.size ≤ w1.heap.size := hb1.size
  generalize hbb : w1.heap.size = B at *
  clear hres1 C1 hr1 hb1
  go_wp2_with fail
  refine C2.mono ?_
  rintro e w2 ⟨v2, o2, f2, l2, e2, rfl, hr2, hres2, hb2⟩
  obtain ⟨⟨h2, rfl, rfl⟩, rfl⟩ : (los l2 = _ ∧ o2 = false ∧ f2 = -1) ∧ e2 = 0 := by
    simp only [Prod.mk.injEq] at hres2
    exact ⟨⟨hres2.1.1.symm, hres2.1.2.1.symm, hres2.1.2.2.symm⟩, hres2.2.symm⟩
  have F2 := fit_get (l := l2) (off := false) (fuse := -1) (by rw [h2]; exact awf2)
  have hx2 := (hb2.block B (heap_lt hx1)).trans hx1
  have hB2 := below_chain hB1 hb2 (by rw [World.size_alloc]; omega)
  obtain ⟨⟨a2, c2, rfl, _⟩, _⟩ := hr2.here
  obtain ⟨w3, hw3⟩ : ∃ w3, w3 = ((w2.setCell ⟨B, 0, none⟩ (.slice a2 l2.length c2)).setCell ⟨B, 1, none⟩ (.bool false)).setCell ⟨B, 2, none⟩ (.int .i64 (-1)) := ⟨_, rfl⟩
  have hx3 : w3.heap[B]? = some (DCells (.slice a2 l2.length c2) false (-1)) := by rw [hw3]; exact dbox_store hx2
  have hr3 : FilesZ (fun k => k = B) w3 (.slice a2 l2.length c2) l2 := by rw [hw3]; exact filesz_store hr2 set3_size set3_other
  have hB3 : Below w.heap.size w w3 := by rw [hw3]; exact below_setC (below_setC (below_setC hB2 hz1 0 _) hz1 1 _) hz1 2 _
  have C3 := pwrite15_walk (fun k => k = B) (.slice a2 l2.length c2) false (-1) l2 [102] 1 [99] w3 (fun k h => by have := heap_lt hx3; omega) hr3 (by have := F2.len; omega) F2.up (by omega) (by omega) (by simp) (by simp) F2.opsl
  rw [h2, aw3] at C3
  have y0 := heap_cell hx2 (j := 0) (v := .slice a1 l1.length c1) rfl
  have y1 := heap_cell hx2 (j := 1) (v := .bool false) rfl
  have y2 := heap_cell hx2 (j := 2) (v := .int .i64 (-1)) rfl
  have g0 := heap_free hx2 0
  have g1 := heap_free hx2 1
  have g2 := heap_free hx2 2
  clear C2 hres2 hr2 hb2 hx1
  go_wp2_with fail
  rw [← hw3]
  clear hw3 hx2 y0 y1 y2 g0 g1 g2 hB1 hB2 F1 F2 h1
  refine C3.mono ?_
  rintro e w4 ⟨v4, o4, f4, l4, e4, rfl, hr4, hres4, hb4⟩
  obtain ⟨⟨h4, rfl, rfl⟩, rfl⟩ : (los l4 = _ ∧ o4 = false ∧ f4 = -1) ∧ e4 = 0 := by
    simp only [Prod.mk.injEq] at hres4
    exact ⟨⟨hres4.1.1.symm, hres4.1.2.1.symm, hres4.1.2.2.symm⟩, hres4.2.symm⟩
  have F4 := fit_get (l := l4) (off := false) (fuse := -1) (by rw [h4]; exact awf3)
  have hx4 := (hb4.block B (heap_lt hx3)).trans hx3
  have hB4 := below_chain hB3 hb4 hB3.size
  obtain ⟨⟨a4, c4, rfl, _⟩, _⟩ := hr4.here
  obtain ⟨w5, hw5⟩ : ∃ w5, w5 = ((w4.setCell ⟨B, 0, none⟩ (.slice a4 l4.length c4)).setCell ⟨B, 1, none⟩ (.bool false)).setCell ⟨B, 2, none⟩ (.int .i64 (-1)) := ⟨_, rfl⟩
  have hx5 : w5.heap[B]? = some (DCells (.slice a4 l4.length c4) false (-1)) := by rw [hw5]; exact dbox_store hx4
  have hr5 : FilesZ (fun k => k = B) w5 (.slice a4 l4.length c4) l4 := by rw [hw5]; exact filesz_store hr4 set3_size set3_other
  have hB5 : Below w.heap.size w w5 := by rw [hw5]; exact below_setC (below_setC (below_setC hB4 hz1 0 _) hz1 1 _) hz1 2 _
  have y0 := heap_cell hx4 (j := 0) (v := .slice a2 l2.length c2) rfl
  have y1 := heap_cell hx4 (j := 1) (v := .bool false) rfl
  have y2 := heap_cell hx4 (j := 2) (v := .int .i64 (-1)) rfl
  have g0 := heap_free hx4 0
  have g1 := heap_free hx4 1
  have g2 := heap_free hx4 2
  have C5 := pread15_walk (.slice a4 l4.length c4) false (-1) l4 [102] w5 hr5.here (by have := F4.len; omega) F4.up F4.ok
  rw [h4, aw4] at C5
  clear C3 hres4 hr4 hb4 hx3
  go_wp2_with fail
  rw [← hw5]
  clear hw5 hx4 y0 y1 y2 g0 g1 g2
  refine C5.mono ?_
  rintro e w6 ⟨rfl, hb6⟩
  have hx6 := (hb6.block B (heap_lt hx5)).trans hx5
  have hB6 := below_chain hB5 hb6 hB5.size
  have hr6 := hr5.here.below hb6
  have y0 := heap_cell hx6 (j := 0) (v := .slice a4 l4.length c4) rfl
  have y1 := heap_cell hx6 (j := 1) (v := .bool false) rfl
  have y2 := heap_cell hx6 (j := 2) (v := .int .i64 (-1)) rfl
  have C6 := pcrash_walk (.slice a4 l4.length c4) (.slice none 0 0) false (-1) l4 [] w6 hr6 (Row.nil _ _) (by have := F4.len; omega) (by simp) F4.ok
  rw [h4, aw5] at C6
  clear C5 hb6 hx5 hr5
  go_wp2_with fail
  refine C6.mono ?_
  rintro e w7 ⟨v7, l7, rfl, hr7, h7, hb7⟩
  have F7 := fit_get (l := l7) (off := false) (fuse := -1) (by rw [h7]; exact awf2)
  have hB7 := below_chain hB6 hb7 hB6.size
  have C7 := pread15_walk v7 false (-1) l7 [102] w7 hr7 (by have := F7.len; omega) F7.up F7.ok
  rw [h7, aw6] at C7
  obtain ⟨⟨a7, c7, rfl, _⟩, _⟩ := hr7
  clear C6 hb7
  go_wp2_with fail
  refine C7.mono ?_
  rintro e w8 ⟨rfl, hb8⟩
  have hB8 := below_chain hB7 hb8 hB7.size
  go_wp2
  go_ret
  exact ⟨rfl, hB8⟩
end Go.Proofs.Ythjoaoakadaieaa
