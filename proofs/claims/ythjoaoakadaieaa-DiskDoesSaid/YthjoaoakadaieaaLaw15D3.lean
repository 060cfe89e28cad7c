/- DiskDoes: the disk is the document's. -/
import Derived.Test.YthjoaoakadaieaaLaw15D2
import Derived.Test.YthjoaoakadaieaaFitKeeps
import Derived.Test.YthjoaoakadaieaaPBad
import Derived.Test.YthjoaoakadaieaaPAct15
import Derived.Test.YthjoaoakadaieaaRRef15
import Derived.Test.YthjoaoakadaieaaPSame15
namespace Go.Proofs.Ythjoaoakadaieaa
open Go.RowKit

set_option maxHeartbeats 16000000 in
set_option maxRecDepth 100000 in
theorem does_walk3 (v : Value) (off : Bool) (fuse : Int) (l : List DF) (v2 : Value) (off2 : Bool) (fuse2 : Int) (l2 : List DF) (n m : List UInt8) (k : Int) (s : List UInt8) (w : World) (hr : FilesR w v l) (hrg : FilesR w v2 l2) (hk1 : -9223372036854775808 ≤ k) (hk2 : k < 9223372036854775808) (hk3 : 20000 < k ∧ k ≤ 262144) :
    Calls Try.prog 9 #[DiskV v off fuse, DiskV v2 off2 fuse2, S n, S m, .int .i64 k, S s] w fun e w' => e = .returned (.bool true) ∧ Below w.heap.size w w' := by
  have HK3 := Lib.hid hk3
  clear hk3
  obtain ⟨a, c, rfl, _⟩ := hr.1
  obtain ⟨a2, c2, rfl, _⟩ := hrg.1
  obtain ⟨w0, hw0, hB0, hx0, hg0⟩ : ∃ w0, w0 = (w.alloc (DCells (.slice a l.length c) off fuse)).alloc (DCells (.slice a2 l2.length c2) off2 fuse2) ∧ Below w.heap.size w w0 ∧ w0.heap[w.heap.size]? = some (DCells (.slice a l.length c) off fuse) ∧ w0.heap[w.heap.size + 1]? = some (DCells (.slice a2 l2.length c2) off2 fuse2) :=
    ⟨_, rfl, ((Below.refl _ _).alloc (Nat.le_refl _) _).alloc (by simp) _, (Below.heap_alloc _ _ _ (by simp)).trans (heap_alloc_new _ _), by have := heap_alloc_new (w.alloc (DCells (.slice a l.length c) off fuse)) (DCells (.slice a2 l2.length c2) off2 fuse2); simpa using this⟩
  have hr0 := hr.below hB0
  have hrg0 := hrg.below hB0
  go_enter Try.func9, Try.ntmps9
  go_upto_region 1 with fail
  rw [← hw0]
  clear hw0
  have C := few_walk (.slice a l.length c) off fuse l w0 hr0
  obtain ⟨y0, y1, y2⟩ := dcells hx0
  go_wp2_with fail
  refine C.mono ?_
  rintro e w1 ⟨b, rfl, hfew, hb1⟩
  have hB1 := below_chain hB0 hb1 hB0.size
  have hx1 := kept hb1 hx0
  have hg1 := kept hb1 hg0
  have hr1 := hr0.below hb1
  have hrg1 := hrg0.below hb1
  clear C y0 y1 y2 hx0 hg0 hr0 hrg0 hb1
  cases b with
  | false => (have CA := awake15_walk w1; go_wp2_with fail; refine CA.mono ?_; rintro e wy ⟨rfl, hby⟩; have hBy := below_chain hB1 hby (Below.size hB1); go_wp2; go_ret; exact ⟨rfl, hBy⟩)
  | true =>
  have HF := Lib.hid (hfew rfl)
  have hl12 := HF.out.1
  clear hfew
  have C := few_walk (.slice a2 l2.length c2) off2 fuse2 l2 w1 hrg1
  obtain ⟨y0, y1, y2⟩ := dcells hg1
  go_wp2_with fail
  refine C.mono ?_
  rintro e w2 ⟨b, rfl, hfew, hb2⟩
  have hB2 := below_chain hB1 hb2 hB1.size
  have hx2 := kept hb2 hx1
  have hg2 := kept hb2 hg1
  have hr2 := hr1.below hb2
  have hrg2 := hrg1.below hb2
  clear C y0 y1 y2 hx1 hg1 hr1 hrg1 hb2
  cases b with
  | false => (have CA := awake15_walk w2; go_wp2_with fail; refine CA.mono ?_; rintro e wy ⟨rfl, hby⟩; have hBy := below_chain hB2 hby (Below.size hB2); go_wp2; go_ret; exact ⟨rfl, hBy⟩)
  | true =>
  have HF2 := Lib.hid (hfew rfl)
  have hl12g := HF2.out.1
  clear hfew
  by_cases g0 : 100 < n.length
  · have g0' : (100 : Int) < (n.length : Int) := by omega
    (have CA := awake15_walk w2; go_wp2_with fail; refine CA.mono ?_; rintro e wy ⟨rfl, hby⟩; have hBy := below_chain hB2 hby (Below.size hB2); go_wp2; go_ret; exact ⟨rfl, hBy⟩)
  have g0' : ¬ (100 : Int) < (n.length : Int) := by omega
  by_cases g1 : 100 < m.length
  · have g1' : (100 : Int) < (m.length : Int) := by omega
    (have CA := awake15_walk w2; go_wp2_with fail; refine CA.mono ?_; rintro e wy ⟨rfl, hby⟩; have hBy := below_chain hB2 hby (Below.size hB2); go_wp2; go_ret; exact ⟨rfl, hBy⟩)
  have g1' : ¬ (100 : Int) < (m.length : Int) := by omega
  by_cases g2 : 5000 < s.length
  · have g2' : (5000 : Int) < (s.length : Int) := by omega
    (have CA := awake15_walk w2; go_wp2_with fail; refine CA.mono ?_; rintro e wy ⟨rfl, hby⟩; have hBy := below_chain hB2 hby (Below.size hB2); go_wp2; go_ret; exact ⟨rfl, hBy⟩)
  have g2' : ¬ (5000 : Int) < (s.length : Int) := by omega
  obtain ⟨g3a, g3b⟩ := HK3.out
  (have CA := awake15_walk w2; go_wp2_with fail; refine CA.mono ?_; rintro e wy ⟨rfl, hby⟩; have hBy := below_chain hB2 hby (Below.size hB2); go_wp2; go_ret; exact ⟨rfl, hBy⟩)
end Go.Proofs.Ythjoaoakadaieaa
