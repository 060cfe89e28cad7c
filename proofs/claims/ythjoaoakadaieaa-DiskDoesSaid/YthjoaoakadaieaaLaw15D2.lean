/- DiskDoes: the disk is the document's. -/
import Derived.Test.YthjoaoakadaieaaLaw15D1
import Derived.Test.YthjoaoakadaieaaFitKeeps
import Derived.Test.YthjoaoakadaieaaPBad
import Derived.Test.YthjoaoakadaieaaPAct15
import Derived.Test.YthjoaoakadaieaaRRef15
import Derived.Test.YthjoaoakadaieaaPSame15
namespace Go.Proofs.Ythjoaoakadaieaa
open Go.RowKit

set_option maxHeartbeats 16000000 in
set_option maxRecDepth 100000 in
theorem does_walk2 (v : Value) (off : Bool) (fuse : Int) (l : List DF) (v2 : Value) (off2 : Bool) (fuse2 : Int) (l2 : List DF) (n m : List UInt8) (k : Int) (s : List UInt8) (w : World) (hr : FilesR w v l) (hrg : FilesR w v2 l2) (hk1 : -9223372036854775808 ≤ k) (hk2 : k < 9223372036854775808) (hk3 : 262144 < k) :
    Calls Try.prog 9 #[DiskV v off fuse, DiskV v2 off2 fuse2, S n, S m, .int .i64 k, S s] w fun e w' => e = .returned (.bool true) ∧ Below w.heap.size w w' := by
  have HK3 := Lib.hid hk3
  clear hk3
  obtain ⟨a, c, rfl, _⟩ := hr.1
  obtain ⟨a2, c2, rfl, _⟩ := hrg.1
  obtain ⟨w0, hw0, hB0, hx0, hg0⟩ : ∃ w0, w0 = (w.alloc (DCells (.slice a l.length c) off fuse)).alloc (DCells (.slice a2 l2.length c2) off2 fuse2) ∧ Below w.heap.size w w0 ∧ w0.heap[w.heap.size]? = some (DCells (.slice a l.length c) off fuse) ∧ w0.heap[w.heap.size + 1]? = some (DCells (.slice a2 l2.length c2) off2 fuse2) :=
    ⟨_, rfl, ((Below.refl _ _).alloc (Nat.le_refl _) _).alloc (by simp) _, (Below.heap_alloc _ _ _ (by simp)).trans (heap_alloc_new _ _), by have := heap_alloc_new (w.alloc (DCells (.slice a l.length c) off fuse)) (DCells (.slice a2 l2.length c2) off2 fuse2); simpa using this⟩
  have hr0 := hr.below hB0
  have hrg0 := hrg.below hB0
  go_enter Try.func9, Try.ntmps9
  go_upto_region 1 with fail
  rw [← hw0]
  clear hw0
  have C := few_walk (.slice a l.length c) off fuse l w0 hr0
  obtain ⟨y0, y1, y2⟩ := dcells hx0
  go_wp2_with fail
  refine C.mono ?_
  rintro e w1 ⟨b, rfl, hfew, hb1⟩
  have hB1 := below_chain hB0 hb1 hB0.size
  have hx1 := kept hb1 hx0
  have hg1 := kept hb1 hg0
  have hr1 := hr0.below hb1
  have hrg1 := hrg0.below hb1
  clear C y0 y1 y2 hx0 hg0 hr0 hrg0 hb1
  cases b with
  | false => (have CA := awake15_walk w1; go_wp2_with fail; refine CA.mono ?_; rintro e wy ⟨rfl, hby⟩; have hBy := below_chain hB1 hby (Below.size hB1); go_wp2; go_ret; exact ⟨rfl, hBy⟩)
  | true =>
  have HF := Lib.hid (hfew rfl)
  have hl12 := HF.out.1
  clear hfew
  have C := few_walk (.slice a2 l2.length c2) off2 fuse2 l2 w1 hrg1
  obtain ⟨y0, y1, y2⟩ := dcells hg1
  go_wp2_with fail
  refine C.mono ?_
  rintro e w2 ⟨b, rfl, hfew, hb2⟩
  have hB2 := below_chain hB1 hb2 hB1.size
  have hx2 := kept hb2 hx1
  have hg2 := kept hb2 hg1
  have hr2 := hr1.below hb2
  have hrg2 := hrg1.below hb2
  clear C y0 y1 y2 hx1 hg1 hr1 hrg1 hb2
  cases b with
  | false => (have CA := awake15_walk w2; go_wp2_with fail; refine CA.mono ?_; rintro e wy ⟨rfl, hby⟩; have hBy := below_chain hB2 hby (Below.size hB2); go_wp2; go_ret; exact ⟨rfl, hBy⟩)
  | true =>
  have HF2 := Lib.hid (hfew rfl)
  have hl12g := HF2.out.1
  clear hfew
  by_cases g0 : 100 < n.length
  · have g0' : (100 : Int) < (n.length : Int) := by omega
    (have CA := awake15_walk w2; go_wp2_with fail; refine CA.mono ?_; rintro e wy ⟨rfl, hby⟩; have hBy := below_chain hB2 hby (Below.size hB2); go_wp2; go_ret; exact ⟨rfl, hBy⟩)
  have g0' : ¬ (100 : Int) < (n.length : Int) := by omega
  by_cases g1 : 100 < m.length
  · have g1' : (100 : Int) < (m.length : Int) := by omega
    (have CA := awake15_walk w2; go_wp2_with fail; refine CA.mono ?_; rintro e wy ⟨rfl, hby⟩; have hBy := below_chain hB2 hby (Below.size hB2); go_wp2; go_ret; exact ⟨rfl, hBy⟩)
  have g1' : ¬ (100 : Int) < (m.length : Int) := by omega
  by_cases g2 : 5000 < s.length
  · have g2' : (5000 : Int) < (s.length : Int) := by omega
    (have CA := awake15_walk w2; go_wp2_with fail; refine CA.mono ?_; rintro e wy ⟨rfl, hby⟩; have hBy := below_chain hB2 hby (Below.size hB2); go_wp2; go_ret; exact ⟨rfl, hBy⟩)
  have g2' : ¬ (5000 : Int) < (s.length : Int) := by omega
  have hk3 := HK3.out
  have g3a : (20000 : Int) < k := by omega
  have g3b : ¬ k ≤ (262144 : Int) := by omega
  -- which disks can be, which are the same
  obtain ⟨q, hq⟩ : ∃ q, fitD (los l, off, fuse) = q := ⟨_, rfl⟩
  obtain ⟨z, hz⟩ : ∃ z, decide (((los l, off, fuse) : LD) = (los l2, off2, fuse2)) = z := ⟨_, rfl⟩
  have CF1 := fun (p : LaterOf w2) => pfit15_walk (.slice a l.length c) off fuse l p.world (hr2.below p.below) (by omega) (few_shortD HF.out)
  have CF2 := fun (p : LaterOf w2) => rfit15_walk (.slice a l.length c) off fuse l p.world (hr2.below p.below) (by omega) (few_shortD HF.out)
  have CS1 := fun (p : LaterOf w2) => psame15_walk (.slice a l.length c) (.slice a2 l2.length c2) off off2 fuse fuse2 l l2 p.world (hr2.below p.below) (hrg2.below p.below) (by omega) (fun x hx => by have := (HF.out.2 x hx).2.2.1; omega)
  have CS2 := fun (p : LaterOf w2) => rsame15_walk (.slice a l.length c) (.slice a2 l2.length c2) off off2 fuse fuse2 l l2 p.world (hr2.below p.below) (hrg2.below p.below) (by omega) (fun x hx => by have := (HF.out.2 x hx).2.2.1; omega)
  have CS3 := fun (p : LaterOf w2) => psame15_walk (.slice a l.length c) (.slice a l.length c) off off fuse fuse l l p.world (hr2.below p.below) (hr2.below p.below) (by omega) (fun x hx => by have := (HF.out.2 x hx).2.2.1; omega)
  rw [hq] at CF1 CF2
  rw [hz] at CS1 CS2
  rw [decide_eq_true rfl] at CS3
  clear hz
  have HQ := Lib.hid hq
  clear hq
  have hqq : (q != q) = false := by simp
  have hzz : (z != z) = false := by simp
  have hqq1 : (q == q) = true := by simp
  have hzz1 : (z == z) = true := by simp
  have n0 := LaterOf.cell (dcells hx2).1
  have n1 := LaterOf.cell (dcells hx2).2.1
  have n2 := LaterOf.cell (dcells hx2).2.2
  have n3 := LaterOf.cell (dcells hg2).1
  have n4 := LaterOf.cell (dcells hg2).2.1
  have n5 := LaterOf.cell (dcells hg2).2.2
  go_upto_region 3 with fail
  (refine wp_region_later (by kernel_rfl) (by kernel_rfl) ?_; (repeat (go_big_quiet_step (first | (go_at_call 28; exact LaterOf.call _ (CF1 _)) | (go_at_call 18; exact LaterOf.call _ (CF2 _)) | (go_at_call 29; with_reducible exact LaterOf.call _ (CS1 _)) | (go_at_call 29; with_reducible exact LaterOf.call _ (CS3 _)) | (go_at_call 21; exact LaterOf.call _ (CS2 _))))); refine wpQuiet_nil ?_; intro _ hw1; obtain ⟨lw, hw2⟩ := hw1; subst hw2)
  clear CF1 CF2 CS1 CS2 CS3 n0 n1 n2 n3 n4 n5 hqq1 hzz1 hrg2 hg2
  have hB3 := below_chain hB2 lw.below hB2.size
  have hx3 := kept lw.below hx2
  have hr3 := hr2.below lw.below
  clear hx2 hr2
  obtain ⟨w3, hw3⟩ : ∃ w3, lw.world = w3 := ⟨_, rfl⟩
  rw [hw3] at hB3 hx3 hr3 ⊢
  clear hw3 lw
  obtain ⟨y0, y1, y2⟩ := dcells hx3
  have C := rfit15_walk (.slice a l.length c) off fuse l w3 hr3 (by omega) (few_shortD HF.out)
  rw [HQ.out] at C
  cases q with
  | false =>
    go_wp2_with fail
    refine C.mono ?_
    rintro e w4 ⟨rfl, hb4⟩
    have hB4 := below_chain hB3 hb4 hB3.size
    (have CA := awake15_walk w4; go_wp2_with fail; refine CA.mono ?_; rintro e wy ⟨rfl, hby⟩; have hBy := below_chain hB4 hby (Below.size hB4); go_wp2; go_ret; exact ⟨rfl, hBy⟩)
  | true =>
  have FL := fit_get HQ.out
  have FP := fitP_of HQ.out
  go_wp2_with fail
  refine C.mono ?_
  rintro e w4 ⟨rfl, hb4⟩
  have hB4 := below_chain hB3 hb4 hB3.size
  have hx4 := kept hb4 hx3
  have hr4 := hr3.below hb4
  clear C y0 y1 y2 hx3 hr3 hb4 hqq hzz
  obtain ⟨y0, y1, y2⟩ := dcells hx4
  obtain ⟨⟨rx, ry⟩, hrx⟩ : ∃ r, readD (los l, off, fuse) n = r := ⟨_, rfl⟩
  have C := pread15_walk (.slice a l.length c) off fuse l n w4 hr4 (by omega) FL.up FL.ok
  rw [hrx] at C
  go_wp2_with fail
  refine C.mono ?_
  rintro e w5 ⟨rfl, hb5⟩
  have hB5 := below_chain hB4 hb5 hB4.size
  have hx5 := kept hb5 hx4
  have hr5 := hr4.below hb5
  clear C y0 y1 y2 hx4 hr4 hb5
  obtain ⟨y0, y1, y2⟩ := dcells hx5
  have C := rread15_walk (.slice a l.length c) off fuse l n w5 hr5 (by omega) FL.up FL.ok
  rw [hrx] at C
  clear hrx
  go_wp2_with fail
  refine C.mono ?_
  rintro e u0 ⟨rfl, hb6⟩
  have hBu0 := below_chain hB5 hb6 hB5.size
  have hxu0 := kept hb6 hx5
  have hru0 := hr5.below hb6
  clear C y0 y1 y2 hx5 hr5 hb6

  obtain ⟨y0, y1, y2⟩ := dcells hxu0
  have C := pwrite15_walk (fun _ => False) (.slice a l.length c) off fuse l n k s u0 (fun k h => h.elim) (FilesZ.of hru0) (by omega) FL.up FL.f1 FL.f2 (by omega) (by omega) FL.opsl
  obtain ⟨RR0, hRR0⟩ : ∃ R, writeD (los l, off, fuse) n k s = R := ⟨_, rfl⟩
  rw [hRR0] at C
  go_wp2_with fail
  refine C.mono ?_
  rintro e t0 ⟨v10, o10, f10, l10, e10, rfl, hz, hres0, hb⟩
  have hrn := hz.here
  have hrv := hrn
  obtain ⟨⟨a10, c10, rfl, _⟩, _⟩ := hrv
  obtain ⟨u1, hw101, hb2, hnew⟩ : ∃ W, W = t0.alloc (DCells (.slice a10 l10.length c10) o10 f10) ∧ Below t0.heap.size t0 W ∧ W.heap[t0.heap.size]? = some (DCells (.slice a10 l10.length c10) o10 f10) := ⟨_, rfl, (Below.refl _ _).alloc (Nat.le_refl _) _, heap_alloc_new _ _⟩
  have hbb := below_chain hb hb2 hb.size
  have hBu1 := below_chain hBu0 hbb hBu0.size
  have hxu1 := kept hbb hxu0
  have hru1 := hru0.below hbb
  have hbx0_1 := hnew
  have hbr0_1 := hrn.below hb2
  have yq0 := fun X => cell_old (dcells (kept hb hxu0)).1 X
  have yq1 := fun X => cell_old (dcells (kept hb hxu0)).2.1 X
  have yq2 := fun X => cell_old (dcells (kept hb hxu0)).2.2 X
  clear C y0 y1 y2 hz hrn hb hb2 hbb hnew hxu0 hru0 
  obtain ⟨y0, y1, y2⟩ := dcells hxu1
  have C := rwrite_walk (.slice a l.length c) off fuse l n k s u1 hru1 (by omega) FL.up FL.f1 FL.f2 (by omega) (by omega) FL.opsl
  obtain ⟨RR1, hRR1⟩ : ∃ R, writeD (los l, off, fuse) n k s = R := ⟨_, rfl⟩
  rw [hRR1] at C
  go_wp2_with fail
  rw [← hw101]
  clear hw101 yq0 yq1 yq2
  try go_wp2_with fail
  refine C.mono ?_
  rintro e t1 ⟨v11, o11, f11, l11, e11, rfl, hz, hres1, hb⟩
  have hrn := hz
  have hrv := hrn
  obtain ⟨⟨a11, c11, rfl, _⟩, _⟩ := hrv
  obtain ⟨u2, hw102, hb2, hnew⟩ : ∃ W, W = t1.alloc (DCells (.slice a11 l11.length c11) o11 f11) ∧ Below t1.heap.size t1 W ∧ W.heap[t1.heap.size]? = some (DCells (.slice a11 l11.length c11) o11 f11) := ⟨_, rfl, (Below.refl _ _).alloc (Nat.le_refl _) _, heap_alloc_new _ _⟩
  have hbb := below_chain hb hb2 hb.size
  have hBu2 := below_chain hBu1 hbb hBu1.size
  have hxu2 := kept hbb hxu1
  have hru2 := hru1.below hbb
  have hbx0_2 := kept hbb hbx0_1
  have hbr0_2 := hbr0_1.below hbb
  have hbx1_2 := hnew
  have hbr1_2 := hrn.below hb2
  have yq0 := fun X => cell_old (dcells (kept hb hxu1)).1 X
  have yq1 := fun X => cell_old (dcells (kept hb hxu1)).2.1 X
  have yq2 := fun X => cell_old (dcells (kept hb hxu1)).2.2 X
  clear C y0 y1 y2 hz hrn hb hb2 hbb hnew hxu1 hru1 hbx0_1 hbr0_1
  obtain ⟨y0, y1, y2⟩ := dcells hxu2
  have C := psync_walk (fun _ => False) (.slice a l.length c) off fuse l n u2 (fun k h => h.elim) (FilesZ.of hru2) (by omega) FL.up FL.f1 FL.f2 FL.ok
  obtain ⟨RR2, hRR2⟩ : ∃ R, syncD (los l, off, fuse) n = R := ⟨_, rfl⟩
  rw [hRR2] at C
  go_wp2_with fail
  rw [← hw102]
  clear hw102 yq0 yq1 yq2
  try go_wp2_with fail
  refine C.mono ?_
  rintro e t2 ⟨v12, o12, f12, l12, e12, rfl, hz, hres2, hb⟩
  have hrn := hz.here
  have hrv := hrn
  obtain ⟨⟨a12, c12, rfl, _⟩, _⟩ := hrv
  obtain ⟨u3, hw103, hb2, hnew⟩ : ∃ W, W = t2.alloc (DCells (.slice a12 l12.length c12) o12 f12) ∧ Below t2.heap.size t2 W ∧ W.heap[t2.heap.size]? = some (DCells (.slice a12 l12.length c12) o12 f12) := ⟨_, rfl, (Below.refl _ _).alloc (Nat.le_refl _) _, heap_alloc_new _ _⟩
  have hbb := below_chain hb hb2 hb.size
  have hBu3 := below_chain hBu2 hbb hBu2.size
  have hxu3 := kept hbb hxu2
  have hru3 := hru2.below hbb
  have hbx0_3 := kept hbb hbx0_2
  have hbr0_3 := hbr0_2.below hbb
  have hbx1_3 := kept hbb hbx1_2
  have hbr1_3 := hbr1_2.below hbb
  have hbx2_3 := hnew
  have hbr2_3 := hrn.below hb2
  have yq0 := fun X => cell_old (dcells (kept hb hxu2)).1 X
  have yq1 := fun X => cell_old (dcells (kept hb hxu2)).2.1 X
  have yq2 := fun X => cell_old (dcells (kept hb hxu2)).2.2 X
  clear C y0 y1 y2 hz hrn hb hb2 hbb hnew hxu2 hru2 hbx0_2 hbr0_2 hbx1_2 hbr1_2
  obtain ⟨y0, y1, y2⟩ := dcells hxu3
  have C := rsync_walk (.slice a l.length c) off fuse l n u3 hru3 (by omega) FL.up FL.f1 FL.f2 FL.ok
  obtain ⟨RR3, hRR3⟩ : ∃ R, syncD (los l, off, fuse) n = R := ⟨_, rfl⟩
  rw [hRR3] at C
  go_wp2_with fail
  rw [← hw103]
  clear hw103 yq0 yq1 yq2
  try go_wp2_with fail
  refine C.mono ?_
  rintro e t3 ⟨v13, o13, f13, l13, e13, rfl, hz, hres3, hb⟩
  have hrn := hz
  have hrv := hrn
  obtain ⟨⟨a13, c13, rfl, _⟩, _⟩ := hrv
  obtain ⟨u4, hw104, hb2, hnew⟩ : ∃ W, W = t3.alloc (DCells (.slice a13 l13.length c13) o13 f13) ∧ Below t3.heap.size t3 W ∧ W.heap[t3.heap.size]? = some (DCells (.slice a13 l13.length c13) o13 f13) := ⟨_, rfl, (Below.refl _ _).alloc (Nat.le_refl _) _, heap_alloc_new _ _⟩
  have hbb := below_chain hb hb2 hb.size
  have hBu4 := below_chain hBu3 hbb hBu3.size
  have hxu4 := kept hbb hxu3
  have hru4 := hru3.below hbb
  have hbx0_4 := kept hbb hbx0_3
  have hbr0_4 := hbr0_3.below hbb
  have hbx1_4 := kept hbb hbx1_3
  have hbr1_4 := hbr1_3.below hbb
  have hbx2_4 := kept hbb hbx2_3
  have hbr2_4 := hbr2_3.below hbb
  have hbx3_4 := hnew
  have hbr3_4 := hrn.below hb2
  have yq0 := fun X => cell_old (dcells (kept hb hxu3)).1 X
  have yq1 := fun X => cell_old (dcells (kept hb hxu3)).2.1 X
  have yq2 := fun X => cell_old (dcells (kept hb hxu3)).2.2 X
  clear C y0 y1 y2 hz hrn hb hb2 hbb hnew hxu3 hru3 hbx0_3 hbr0_3 hbx1_3 hbr1_3 hbx2_3 hbr2_3
  obtain ⟨y0, y1, y2⟩ := dcells hxu4
  have C := prename_walk (fun _ => False) (.slice a l.length c) off fuse l n m u4 (fun k h => h.elim) (FilesZ.of hru4) (by omega) FL.up FL.f1 FL.f2 (by omega)
  obtain ⟨RR4, hRR4⟩ : ∃ R, renameD (los l, off, fuse) n m = R := ⟨_, rfl⟩
  rw [hRR4] at C
  go_wp2_with fail
  rw [← hw104]
  clear hw104 yq0 yq1 yq2
  try go_wp2_with fail
  refine C.mono ?_
  rintro e t4 ⟨v14, o14, f14, l14, e14, rfl, hz, hres4, hb⟩
  have hrn := hz.here
  have hrv := hrn
  obtain ⟨⟨a14, c14, rfl, _⟩, _⟩ := hrv
  obtain ⟨u5, hw105, hb2, hnew⟩ : ∃ W, W = t4.alloc (DCells (.slice a14 l14.length c14) o14 f14) ∧ Below t4.heap.size t4 W ∧ W.heap[t4.heap.size]? = some (DCells (.slice a14 l14.length c14) o14 f14) := ⟨_, rfl, (Below.refl _ _).alloc (Nat.le_refl _) _, heap_alloc_new _ _⟩
  have hbb := below_chain hb hb2 hb.size
  have hBu5 := below_chain hBu4 hbb hBu4.size
  have hxu5 := kept hbb hxu4
  have hru5 := hru4.below hbb
  have hbx0_5 := kept hbb hbx0_4
  have hbr0_5 := hbr0_4.below hbb
  have hbx1_5 := kept hbb hbx1_4
  have hbr1_5 := hbr1_4.below hbb
  have hbx2_5 := kept hbb hbx2_4
  have hbr2_5 := hbr2_4.below hbb
  have hbx3_5 := kept hbb hbx3_4
  have hbr3_5 := hbr3_4.below hbb
  have hbx4_5 := hnew
  have hbr4_5 := hrn.below hb2
  have yq0 := fun X => cell_old (dcells (kept hb hxu4)).1 X
  have yq1 := fun X => cell_old (dcells (kept hb hxu4)).2.1 X
  have yq2 := fun X => cell_old (dcells (kept hb hxu4)).2.2 X
  clear C y0 y1 y2 hz hrn hb hb2 hbb hnew hxu4 hru4 hbx0_4 hbr0_4 hbx1_4 hbr1_4 hbx2_4 hbr2_4 hbx3_4 hbr3_4
  obtain ⟨y0, y1, y2⟩ := dcells hxu5
  have C := rrename_walk (.slice a l.length c) off fuse l n m u5 hru5 (by omega) FL.up FL.f1 FL.f2 (by omega)
  obtain ⟨RR5, hRR5⟩ : ∃ R, renameD (los l, off, fuse) n m = R := ⟨_, rfl⟩
  rw [hRR5] at C
  go_wp2_with fail
  rw [← hw105]
  clear hw105 yq0 yq1 yq2
  try go_wp2_with fail
  refine C.mono ?_
  rintro e t5 ⟨v15, o15, f15, l15, e15, rfl, hz, hres5, hb⟩
  have hrn := hz
  have hrv := hrn
  obtain ⟨⟨a15, c15, rfl, _⟩, _⟩ := hrv
  obtain ⟨u6, hw106, hb2, hnew⟩ : ∃ W, W = t5.alloc (DCells (.slice a15 l15.length c15) o15 f15) ∧ Below t5.heap.size t5 W ∧ W.heap[t5.heap.size]? = some (DCells (.slice a15 l15.length c15) o15 f15) := ⟨_, rfl, (Below.refl _ _).alloc (Nat.le_refl _) _, heap_alloc_new _ _⟩
  have hbb := below_chain hb hb2 hb.size
  have hBu6 := below_chain hBu5 hbb hBu5.size
  have hxu6 := kept hbb hxu5
  have hru6 := hru5.below hbb
  have hbx0_6 := kept hbb hbx0_5
  have hbr0_6 := hbr0_5.below hbb
  have hbx1_6 := kept hbb hbx1_5
  have hbr1_6 := hbr1_5.below hbb
  have hbx2_6 := kept hbb hbx2_5
  have hbr2_6 := hbr2_5.below hbb
  have hbx3_6 := kept hbb hbx3_5
  have hbr3_6 := hbr3_5.below hbb
  have hbx4_6 := kept hbb hbx4_5
  have hbr4_6 := hbr4_5.below hbb
  have hbx5_6 := hnew
  have hbr5_6 := hrn.below hb2
  have yq0 := fun X => cell_old (dcells (kept hb hxu5)).1 X
  have yq1 := fun X => cell_old (dcells (kept hb hxu5)).2.1 X
  have yq2 := fun X => cell_old (dcells (kept hb hxu5)).2.2 X
  clear C y0 y1 y2 hz hrn hb hb2 hbb hnew hxu5 hru5 hbx0_5 hbr0_5 hbx1_5 hbr1_5 hbx2_5 hbr2_5 hbx3_5 hbr3_5 hbx4_5 hbr4_5
  obtain ⟨y0, y1, y2⟩ := dcells hxu6
  have C := premove_walk (fun _ => False) (.slice a l.length c) off fuse l n u6 (fun k h => h.elim) (FilesZ.of hru6) (by omega) FL.up FL.f1 FL.f2
  obtain ⟨RR6, hRR6⟩ : ∃ R, removeD (los l, off, fuse) n = R := ⟨_, rfl⟩
  rw [hRR6] at C
  go_wp2_with fail
  rw [← hw106]
  clear hw106 yq0 yq1 yq2
  try go_wp2_with fail
  refine C.mono ?_
  rintro e t6 ⟨v16, o16, f16, l16, e16, rfl, hz, hres6, hb⟩
  have hrn := hz.here
  have hrv := hrn
  obtain ⟨⟨a16, c16, rfl, _⟩, _⟩ := hrv
  obtain ⟨u7, hw107, hb2, hnew⟩ : ∃ W, W = t6.alloc (DCells (.slice a16 l16.length c16) o16 f16) ∧ Below t6.heap.size t6 W ∧ W.heap[t6.heap.size]? = some (DCells (.slice a16 l16.length c16) o16 f16) := ⟨_, rfl, (Below.refl _ _).alloc (Nat.le_refl _) _, heap_alloc_new _ _⟩
  have hbb := below_chain hb hb2 hb.size
  have hBu7 := below_chain hBu6 hbb hBu6.size
  have hxu7 := kept hbb hxu6
  have hru7 := hru6.below hbb
  have hbx0_7 := kept hbb hbx0_6
  have hbr0_7 := hbr0_6.below hbb
  have hbx1_7 := kept hbb hbx1_6
  have hbr1_7 := hbr1_6.below hbb
  have hbx2_7 := kept hbb hbx2_6
  have hbr2_7 := hbr2_6.below hbb
  have hbx3_7 := kept hbb hbx3_6
  have hbr3_7 := hbr3_6.below hbb
  have hbx4_7 := kept hbb hbx4_6
  have hbr4_7 := hbr4_6.below hbb
  have hbx5_7 := kept hbb hbx5_6
  have hbr5_7 := hbr5_6.below hbb
  have hbx6_7 := hnew
  have hbr6_7 := hrn.below hb2
  have yq0 := fun X => cell_old (dcells (kept hb hxu6)).1 X
  have yq1 := fun X => cell_old (dcells (kept hb hxu6)).2.1 X
  have yq2 := fun X => cell_old (dcells (kept hb hxu6)).2.2 X
  clear C y0 y1 y2 hz hrn hb hb2 hbb hnew hxu6 hru6 hbx0_6 hbr0_6 hbx1_6 hbr1_6 hbx2_6 hbr2_6 hbx3_6 hbr3_6 hbx4_6 hbr4_6 hbx5_6 hbr5_6
  obtain ⟨y0, y1, y2⟩ := dcells hxu7
  have C := rremove_walk (.slice a l.length c) off fuse l n u7 hru7 (by omega) FL.up FL.f1 FL.f2
  obtain ⟨RR7, hRR7⟩ : ∃ R, removeD (los l, off, fuse) n = R := ⟨_, rfl⟩
  rw [hRR7] at C
  go_wp2_with fail
  rw [← hw107]
  clear hw107 yq0 yq1 yq2
  try go_wp2_with fail
  refine C.mono ?_
  rintro e t7 ⟨v17, o17, f17, l17, e17, rfl, hz, hres7, hb⟩
  have hrn := hz
  have hrv := hrn
  obtain ⟨⟨a17, c17, rfl, _⟩, _⟩ := hrv
  obtain ⟨u8, hw108, hb2, hnew⟩ : ∃ W, W = t7.alloc (DCells (.slice a17 l17.length c17) o17 f17) ∧ Below t7.heap.size t7 W ∧ W.heap[t7.heap.size]? = some (DCells (.slice a17 l17.length c17) o17 f17) := ⟨_, rfl, (Below.refl _ _).alloc (Nat.le_refl _) _, heap_alloc_new _ _⟩
  have hbb := below_chain hb hb2 hb.size
  have hBu8 := below_chain hBu7 hbb hBu7.size
  have hxu8 := kept hbb hxu7
  have hru8 := hru7.below hbb
  have hbx0_8 := kept hbb hbx0_7
  have hbr0_8 := hbr0_7.below hbb
  have hbx1_8 := kept hbb hbx1_7
  have hbr1_8 := hbr1_7.below hbb
  have hbx2_8 := kept hbb hbx2_7
  have hbr2_8 := hbr2_7.below hbb
  have hbx3_8 := kept hbb hbx3_7
  have hbr3_8 := hbr3_7.below hbb
  have hbx4_8 := kept hbb hbx4_7
  have hbr4_8 := hbr4_7.below hbb
  have hbx5_8 := kept hbb hbx5_7
  have hbr5_8 := hbr5_7.below hbb
  have hbx6_8 := kept hbb hbx6_7
  have hbr6_8 := hbr6_7.below hbb
  have hbx7_8 := hnew
  have hbr7_8 := hrn.below hb2
  have yq0 := fun X => cell_old (dcells (kept hb hxu7)).1 X
  have yq1 := fun X => cell_old (dcells (kept hb hxu7)).2.1 X
  have yq2 := fun X => cell_old (dcells (kept hb hxu7)).2.2 X
  clear C y0 y1 y2 hz hrn hb hb2 hbb hnew hxu7 hru7 hbx0_7 hbr0_7 hbx1_7 hbr1_7 hbx2_7 hbr2_7 hbx3_7 hbr3_7 hbx4_7 hbr4_7 hbx5_7 hbr5_7 hbx6_7 hbr6_7
  go_upto_region 17 with fail
  rw [← hw108]
  clear hw108 yq0 yq1 yq2 hxu8 hru8
  have E0 := hres0.symm.trans (hRR0.symm.trans (hRR1.trans hres1))
  have D0 := congrArg Prod.fst E0
  have S0 := congrArg Prod.snd E0
  simp only at D0 S0
  have FT0 : fitD (los l10, o10, f10) = true := by have h := (writeD_fit (n := n) (k := k) (s := s) FP).fit; rw [hRR0, hres0] at h; exact h
  have F0 := fit_get FT0
  have DD0 := Lib.hid D0
  have ee0 : (e10 == e11) = true := by rw [beq_iff_eq]; exact S0
  clear E0 D0 S0 hres0 hres1 hRR0 hRR1
  have E2 := hres2.symm.trans (hRR2.symm.trans (hRR3.trans hres3))
  have D2 := congrArg Prod.fst E2
  have S2 := congrArg Prod.snd E2
  simp only at D2 S2
  have FT2 : fitD (los l12, o12, f12) = true := by have h := (syncD_fit (n := n) FP).fit; rw [hRR2, hres2] at h; exact h
  have F2 := fit_get FT2
  have DD2 := Lib.hid D2
  have ee2 : (e12 == e13) = true := by rw [beq_iff_eq]; exact S2
  clear E2 D2 S2 hres2 hres3 hRR2 hRR3
  have E4 := hres4.symm.trans (hRR4.symm.trans (hRR5.trans hres5))
  have D4 := congrArg Prod.fst E4
  have S4 := congrArg Prod.snd E4
  simp only at D4 S4
  have FT4 : fitD (los l14, o14, f14) = true := by have h := (renameD_fit (n := n) (m := m) FP).fit; rw [hRR4, hres4] at h; exact h
  have F4 := fit_get FT4
  have DD4 := Lib.hid D4
  have ee4 : (e14 == e15) = true := by rw [beq_iff_eq]; exact S4
  clear E4 D4 S4 hres4 hres5 hRR4 hRR5
  have E6 := hres6.symm.trans (hRR6.symm.trans (hRR7.trans hres7))
  have D6 := congrArg Prod.fst E6
  have S6 := congrArg Prod.snd E6
  simp only at D6 S6
  have FT6 : fitD (los l16, o16, f16) = true := by have h := (removeD_fit (n := n) FP).fit; rw [hRR6, hres6] at h; exact h
  have F6 := fit_get FT6
  have DD6 := Lib.hid D6
  have ee6 : (e16 == e17) = true := by rw [beq_iff_eq]; exact S6
  clear E6 D6 S6 hres6 hres7 hRR6 hRR7
  have hxx : (rx == rx) = true := by simp
  have hyy : (ry == ry) = true := by simp
  obtain ⟨y0, y1, y2⟩ := dcells hbx0_8
  have C := rfit15_walk (.slice a10 l10.length c10) o10 f10 l10 u8 hbr0_8 (by have := F0.len; omega) F0.shortD
  rw [FT0] at C
  go_wp2_with fail
  refine C.mono ?_
  rintro e x0 ⟨rfl, hb⟩
  have hBx0 := below_chain hBu8 hb hBu8.size
  have hbx0_x0 := kept hb hbx0_8
  have hbr0_x0 := hbr0_8.below hb
  have hbx1_x0 := kept hb hbx1_8
  have hbr1_x0 := hbr1_8.below hb
  have hbx2_x0 := kept hb hbx2_8
  have hbr2_x0 := hbr2_8.below hb
  have hbx3_x0 := kept hb hbx3_8
  have hbr3_x0 := hbr3_8.below hb
  have hbx4_x0 := kept hb hbx4_8
  have hbr4_x0 := hbr4_8.below hb
  have hbx5_x0 := kept hb hbx5_8
  have hbr5_x0 := hbr5_8.below hb
  have hbx6_x0 := kept hb hbx6_8
  have hbr6_x0 := hbr6_8.below hb
  have hbx7_x0 := kept hb hbx7_8
  have hbr7_x0 := hbr7_8.below hb
  clear hbx0_8 hbr0_8 hbx1_8 hbr1_8 hbx2_8 hbr2_8 hbx3_8 hbr3_8 hbx4_8 hbr4_8 hbx5_8 hbr5_8 hbx6_8 hbr6_8 hbx7_8 hbr7_8
  clear C y0 y1 y2 hb
  obtain ⟨y0, y1, y2⟩ := dcells hbx2_x0
  have C := rfit15_walk (.slice a12 l12.length c12) o12 f12 l12 x0 hbr2_x0 (by have := F2.len; omega) F2.shortD
  rw [FT2] at C
  go_wp2_with fail
  refine C.mono ?_
  rintro e x1 ⟨rfl, hb⟩
  have hBx1 := below_chain hBx0 hb hBx0.size
  have hbx0_x1 := kept hb hbx0_x0
  have hbr0_x1 := hbr0_x0.below hb
  have hbx1_x1 := kept hb hbx1_x0
  have hbr1_x1 := hbr1_x0.below hb
  have hbx2_x1 := kept hb hbx2_x0
  have hbr2_x1 := hbr2_x0.below hb
  have hbx3_x1 := kept hb hbx3_x0
  have hbr3_x1 := hbr3_x0.below hb
  have hbx4_x1 := kept hb hbx4_x0
  have hbr4_x1 := hbr4_x0.below hb
  have hbx5_x1 := kept hb hbx5_x0
  have hbr5_x1 := hbr5_x0.below hb
  have hbx6_x1 := kept hb hbx6_x0
  have hbr6_x1 := hbr6_x0.below hb
  have hbx7_x1 := kept hb hbx7_x0
  have hbr7_x1 := hbr7_x0.below hb
  clear hbx0_x0 hbr0_x0 hbx1_x0 hbr1_x0 hbx2_x0 hbr2_x0 hbx3_x0 hbr3_x0 hbx4_x0 hbr4_x0 hbx5_x0 hbr5_x0 hbx6_x0 hbr6_x0 hbx7_x0 hbr7_x0
  clear C y0 y1 y2 hb
  obtain ⟨y0, y1, y2⟩ := dcells hbx4_x1
  have C := rfit15_walk (.slice a14 l14.length c14) o14 f14 l14 x1 hbr4_x1 (by have := F4.len; omega) F4.shortD
  rw [FT4] at C
  go_wp2_with fail
  refine C.mono ?_
  rintro e x2 ⟨rfl, hb⟩
  have hBx2 := below_chain hBx1 hb hBx1.size
  have hbx0_x2 := kept hb hbx0_x1
  have hbr0_x2 := hbr0_x1.below hb
  have hbx1_x2 := kept hb hbx1_x1
  have hbr1_x2 := hbr1_x1.below hb
  have hbx2_x2 := kept hb hbx2_x1
  have hbr2_x2 := hbr2_x1.below hb
  have hbx3_x2 := kept hb hbx3_x1
  have hbr3_x2 := hbr3_x1.below hb
  have hbx4_x2 := kept hb hbx4_x1
  have hbr4_x2 := hbr4_x1.below hb
  have hbx5_x2 := kept hb hbx5_x1
  have hbr5_x2 := hbr5_x1.below hb
  have hbx6_x2 := kept hb hbx6_x1
  have hbr6_x2 := hbr6_x1.below hb
  have hbx7_x2 := kept hb hbx7_x1
  have hbr7_x2 := hbr7_x1.below hb
  clear hbx0_x1 hbr0_x1 hbx1_x1 hbr1_x1 hbx2_x1 hbr2_x1 hbx3_x1 hbr3_x1 hbx4_x1 hbr4_x1 hbx5_x1 hbr5_x1 hbx6_x1 hbr6_x1 hbx7_x1 hbr7_x1
  clear C y0 y1 y2 hb
  obtain ⟨y0, y1, y2⟩ := dcells hbx6_x2
  have C := rfit15_walk (.slice a16 l16.length c16) o16 f16 l16 x2 hbr6_x2 (by have := F6.len; omega) F6.shortD
  rw [FT6] at C
  go_wp2_with fail
  refine C.mono ?_
  rintro e x3 ⟨rfl, hb⟩
  have hBx3 := below_chain hBx2 hb hBx2.size
  have hbx0_x3 := kept hb hbx0_x2
  have hbr0_x3 := hbr0_x2.below hb
  have hbx1_x3 := kept hb hbx1_x2
  have hbr1_x3 := hbr1_x2.below hb
  have hbx2_x3 := kept hb hbx2_x2
  have hbr2_x3 := hbr2_x2.below hb
  have hbx3_x3 := kept hb hbx3_x2
  have hbr3_x3 := hbr3_x2.below hb
  have hbx4_x3 := kept hb hbx4_x2
  have hbr4_x3 := hbr4_x2.below hb
  have hbx5_x3 := kept hb hbx5_x2
  have hbr5_x3 := hbr5_x2.below hb
  have hbx6_x3 := kept hb hbx6_x2
  have hbr6_x3 := hbr6_x2.below hb
  have hbx7_x3 := kept hb hbx7_x2
  have hbr7_x3 := hbr7_x2.below hb
  clear hbx0_x2 hbr0_x2 hbx1_x2 hbr1_x2 hbx2_x2 hbr2_x2 hbx3_x2 hbr3_x2 hbx4_x2 hbr4_x2 hbx5_x2 hbr5_x2 hbx6_x2 hbr6_x2 hbx7_x2 hbr7_x2
  clear C y0 y1 y2 hb
  obtain ⟨y0, y1, y2⟩ := dcells hbx0_x3
  obtain ⟨q0, q1, q2⟩ := dcells hbx1_x3
  have C := rsame15_walk (.slice a10 l10.length c10) (.slice a11 l11.length c11) o10 o11 f10 f11 l10 l11 x3 hbr0_x3 hbr1_x3 (by have := F0.len; omega) (fun x hx => by have := F0.opsl x hx; omega)
  rw [decide_eq_true DD0.out] at C
  go_wp2_with fail
  refine C.mono ?_
  rintro e z0 ⟨rfl, hb⟩
  have hBz0 := below_chain hBx3 hb hBx3.size
  have hbx0_z0 := kept hb hbx0_x3
  have hbr0_z0 := hbr0_x3.below hb
  have hbx1_z0 := kept hb hbx1_x3
  have hbr1_z0 := hbr1_x3.below hb
  have hbx2_z0 := kept hb hbx2_x3
  have hbr2_z0 := hbr2_x3.below hb
  have hbx3_z0 := kept hb hbx3_x3
  have hbr3_z0 := hbr3_x3.below hb
  have hbx4_z0 := kept hb hbx4_x3
  have hbr4_z0 := hbr4_x3.below hb
  have hbx5_z0 := kept hb hbx5_x3
  have hbr5_z0 := hbr5_x3.below hb
  have hbx6_z0 := kept hb hbx6_x3
  have hbr6_z0 := hbr6_x3.below hb
  have hbx7_z0 := kept hb hbx7_x3
  have hbr7_z0 := hbr7_x3.below hb
  clear hbx0_x3 hbr0_x3 hbx1_x3 hbr1_x3 hbx2_x3 hbr2_x3 hbx3_x3 hbr3_x3 hbx4_x3 hbr4_x3 hbx5_x3 hbr5_x3 hbx6_x3 hbr6_x3 hbx7_x3 hbr7_x3
  clear C y0 y1 y2 q0 q1 q2 hb
  obtain ⟨y0, y1, y2⟩ := dcells hbx2_z0
  obtain ⟨q0, q1, q2⟩ := dcells hbx3_z0
  have C := rsame15_walk (.slice a12 l12.length c12) (.slice a13 l13.length c13) o12 o13 f12 f13 l12 l13 z0 hbr2_z0 hbr3_z0 (by have := F2.len; omega) (fun x hx => by have := F2.opsl x hx; omega)
  rw [decide_eq_true DD2.out] at C
  go_wp2_with fail
  refine C.mono ?_
  rintro e z1 ⟨rfl, hb⟩
  have hBz1 := below_chain hBz0 hb hBz0.size
  have hbx0_z1 := kept hb hbx0_z0
  have hbr0_z1 := hbr0_z0.below hb
  have hbx1_z1 := kept hb hbx1_z0
  have hbr1_z1 := hbr1_z0.below hb
  have hbx2_z1 := kept hb hbx2_z0
  have hbr2_z1 := hbr2_z0.below hb
  have hbx3_z1 := kept hb hbx3_z0
  have hbr3_z1 := hbr3_z0.below hb
  have hbx4_z1 := kept hb hbx4_z0
  have hbr4_z1 := hbr4_z0.below hb
  have hbx5_z1 := kept hb hbx5_z0
  have hbr5_z1 := hbr5_z0.below hb
  have hbx6_z1 := kept hb hbx6_z0
  have hbr6_z1 := hbr6_z0.below hb
  have hbx7_z1 := kept hb hbx7_z0
  have hbr7_z1 := hbr7_z0.below hb
  clear hbx0_z0 hbr0_z0 hbx1_z0 hbr1_z0 hbx2_z0 hbr2_z0 hbx3_z0 hbr3_z0 hbx4_z0 hbr4_z0 hbx5_z0 hbr5_z0 hbx6_z0 hbr6_z0 hbx7_z0 hbr7_z0
  clear C y0 y1 y2 q0 q1 q2 hb
  obtain ⟨y0, y1, y2⟩ := dcells hbx4_z1
  obtain ⟨q0, q1, q2⟩ := dcells hbx5_z1
  have C := rsame15_walk (.slice a14 l14.length c14) (.slice a15 l15.length c15) o14 o15 f14 f15 l14 l15 z1 hbr4_z1 hbr5_z1 (by have := F4.len; omega) (fun x hx => by have := F4.opsl x hx; omega)
  rw [decide_eq_true DD4.out] at C
  go_wp2_with fail
  refine C.mono ?_
  rintro e z2 ⟨rfl, hb⟩
  have hBz2 := below_chain hBz1 hb hBz1.size
  have hbx0_z2 := kept hb hbx0_z1
  have hbr0_z2 := hbr0_z1.below hb
  have hbx1_z2 := kept hb hbx1_z1
  have hbr1_z2 := hbr1_z1.below hb
  have hbx2_z2 := kept hb hbx2_z1
  have hbr2_z2 := hbr2_z1.below hb
  have hbx3_z2 := kept hb hbx3_z1
  have hbr3_z2 := hbr3_z1.below hb
  have hbx4_z2 := kept hb hbx4_z1
  have hbr4_z2 := hbr4_z1.below hb
  have hbx5_z2 := kept hb hbx5_z1
  have hbr5_z2 := hbr5_z1.below hb
  have hbx6_z2 := kept hb hbx6_z1
  have hbr6_z2 := hbr6_z1.below hb
  have hbx7_z2 := kept hb hbx7_z1
  have hbr7_z2 := hbr7_z1.below hb
  clear hbx0_z1 hbr0_z1 hbx1_z1 hbr1_z1 hbx2_z1 hbr2_z1 hbx3_z1 hbr3_z1 hbx4_z1 hbr4_z1 hbx5_z1 hbr5_z1 hbx6_z1 hbr6_z1 hbx7_z1 hbr7_z1
  clear C y0 y1 y2 q0 q1 q2 hb
  obtain ⟨y0, y1, y2⟩ := dcells hbx6_z2
  obtain ⟨q0, q1, q2⟩ := dcells hbx7_z2
  have C := rsame15_walk (.slice a16 l16.length c16) (.slice a17 l17.length c17) o16 o17 f16 f17 l16 l17 z2 hbr6_z2 hbr7_z2 (by have := F6.len; omega) (fun x hx => by have := F6.opsl x hx; omega)
  rw [decide_eq_true DD6.out] at C
  go_wp2_with fail
  refine C.mono ?_
  rintro e z3 ⟨rfl, hb⟩
  have hBz3 := below_chain hBz2 hb hBz2.size
  have hbx0_z3 := kept hb hbx0_z2
  have hbr0_z3 := hbr0_z2.below hb
  have hbx1_z3 := kept hb hbx1_z2
  have hbr1_z3 := hbr1_z2.below hb
  have hbx2_z3 := kept hb hbx2_z2
  have hbr2_z3 := hbr2_z2.below hb
  have hbx3_z3 := kept hb hbx3_z2
  have hbr3_z3 := hbr3_z2.below hb
  have hbx4_z3 := kept hb hbx4_z2
  have hbr4_z3 := hbr4_z2.below hb
  have hbx5_z3 := kept hb hbx5_z2
  have hbr5_z3 := hbr5_z2.below hb
  have hbx6_z3 := kept hb hbx6_z2
  have hbr6_z3 := hbr6_z2.below hb
  have hbx7_z3 := kept hb hbx7_z2
  have hbr7_z3 := hbr7_z2.below hb
  clear hbx0_z2 hbr0_z2 hbx1_z2 hbr1_z2 hbx2_z2 hbr2_z2 hbx3_z2 hbr3_z2 hbx4_z2 hbr4_z2 hbx5_z2 hbr5_z2 hbx6_z2 hbr6_z2 hbx7_z2 hbr7_z2
  clear C y0 y1 y2 q0 q1 q2 hb
  (have CA := awake15_walk z3; go_wp2_with fail; refine CA.mono ?_; rintro e wy ⟨rfl, hby⟩; have hBy := below_chain hBz3 hby (Below.size hBz3); go_wp2; go_ret; exact ⟨rfl, hBy⟩)
end Go.Proofs.Ythjoaoakadaieaa