/- The program's Rename. -/
import Derived.Test.YthjoaoakadaieaaPRemove
namespace Go.Proofs.Ythjoaoakadaieaa
open Go.RowKit

theorem Alt.other {B b : Nat} {w w' : World} (h : Alt B b w w') {k : Nat} (h1 : k < B) (h2 : k ≠ b) : w'.heap[k]? = w.heap[k]? := by
  rcases Nat.lt_or_ge k b with h3 | h3
  · exact h.below.block k h3
  · exact h.same k (by omega) h1

set_option maxHeartbeats 4000000 in
set_option maxRecDepth 100000 in
theorem rename1_walk (Z : Nat → Prop) (B b bn bt bm r : Nat) (n m : List UInt8) (v0 v : Value) (off off' : Bool) (fuse f' : Int) (l : List DF) (w0 w : World)
    (hn : w.heap[bn]? = some (.cells #[S n] 9 (0, 0))) (ht : w.heap[bt]? = some (.cells #[S m] 9 (0, 0)))
    (hp : w.heap[bm]? = some (.cells #[.pointer (some ⟨b, 0, none⟩)] 76 (0, 0))) (hm : MBox w b v off' f') (hown : OwnF w B v l)
    (lt : bn < B ∧ bt < B ∧ bm < B ∧ b < B ∧ r < B ∧ B ≤ w.heap.size ∧ b < r ∧ w0.heap.size ≤ b ∧ bn ≠ b ∧ bt ≠ b ∧ bm ≠ b) (hup : upS (l.map DF.name)) (hcnt : l.length ≤ 1000) (hzf : FilesZ Z w0 v0 l) (hin : n ∈ l.map DF.name)
    (old : ∀ i, i < w0.heap.size → w.heap[i]? = w0.heap[i]?) :
    Calls Try.prog 53 #[.pointer (some ⟨bm, 0, none⟩), .pointer (some ⟨bn, 0, none⟩), .pointer (some ⟨bt, 0, none⟩)] w (WrPost Z w0.heap.size b r off' f' (withF (withoutF (los l) n) (m, (fileOf (los l, off, fuse) n).2)) w) := by
  obtain ⟨l1, l2, l3, l4, l5, l6, l7, l8, l9, l10, l11⟩ := lt
  have HOPZ := Lib.hid hzf.ops
  have hr := hzf.here
  clear hzf
  have hone : ∀ x ∈ l, x.ov.oneCell' = true := fun x hx => oprow_one (hr.2 x hx)
  have hrow := Row.of_ownsK dfC_len hown
  have C := pmat_walk b v off' f' l n w hm hrow (by omega) hup
  obtain ⟨hk, hnm, hf⟩ := findF_in hup hin
  rw [show decide (n ∈ l.map DF.name) = true by simpa using hin] at C
  have hfo0 : fileOf (los l, off, fuse) n = l[posL (l.map DF.name) n].lo := by unfold fileOf; rw [hf]; rfl
  have HUPW := Lib.hid (withoutK_up' (n := n) hup)
  have hslice : ∃ oa on oc, l[posL (l.map DF.name) n].ov = .slice oa on oc := by
    obtain ⟨a, c, h, _⟩ := hr.2 l[posL (l.map DF.name) n] (by simp)
    exact ⟨a, _, c, h⟩
  have HUP := Lib.hid hup
  have HOPK := Lib.hid (HOPZ.out l[posL (l.map DF.name) n] (by simp))
  generalize posL (l.map DF.name) n = k at *
  have HONE := Lib.hid hone
  have HROW := Lib.hid hrow
  have HOLD := Lib.hid old
  clear hr hone hrow hup hf hnm hin old
  have hown2 := hown.2
  rcases hown2 with ⟨rfl, h0⟩ | ⟨g, cap, cur, rfl, hBg, hg, hnc, hcm, hcs, hta⟩
  · omega
  have hgl := heap_lt hg
  have hx := HROW.out
  obtain ⟨a', c', hv', _, _, hx⟩ := hx
  cases hv'
  rcases hx with hx | ⟨bx, ox, hax, hx⟩
  · exfalso; rw [hx] at hk; simp at hk
  cases hax
  obtain ⟨hx1, hx2, hx3⟩ := df_cells hx hk
  clear hx
  generalize l[k] = y at *
  obtain ⟨nm, dt, ov, os⟩ := y
  simp only at hx1 hx2 hx3 hslice
  obtain ⟨oa, on, oc, rfl⟩ := hslice
  have hfo : fileOf (los l, off, fuse) n = (nm, dt, os) := hfo0
  have HFO := Lib.hid hfo
  clear hfo hfo0 hta hcs hnc hcm
  have k' : (k : Int) < (l.length : Int) := by omega
  have n0 := heap_cell hn (j := 0) (v := S n) rfl
  have p0 := heap_cell hp (j := 0) (v := .pointer (some ⟨b, 0, none⟩)) rfl
  go_enter Try.func53, Try.ntmps53
  go_wp2_with fail
  refine C.mono ?_
  rintro e w1 ⟨rfl, hb1⟩
  have q1 := heap_later hn hb1 (heap_lt hn)
  have q2 := heap_later ht hb1 (heap_lt ht)
  have q3 := heap_later hp hb1 (heap_lt hp)
  have q4 : MBox w1 b (.slice (some ⟨g, 0, none⟩) l.length cap) off' f' := heap_later hm hb1 (heap_lt hm)
  have q5 : OwnF w1 B (.slice (some ⟨g, 0, none⟩) l.length cap) l := own_keep hown (fun i h1 h2 => hb1.block i h2)
  have c1 := heap_cell q1 (j := 0) (v := S n) rfl
  have c2 := heap_cell q2 (j := 0) (v := S m) rfl
  have c3 := heap_cell q3 (j := 0) (v := .pointer (some ⟨b, 0, none⟩)) rfl
  have c4 := heap_cell q4 (j := 0) (v := .slice (some ⟨g, 0, none⟩) l.length cap) rfl
  have e1 := cell_below hb1 hx1
  have e2 := cell_below hb1 hx2
  have e3 := cell_below hb1 hx3
  have hz1 := hb1.size
  clear C n0 p0 hx1 hx2 hx3 hn ht hp hm hown hg
  simp only [Nat.zero_add] at e1 e2 e3
  have y2 := fun X => cell_old c2 X
  go_upto_region 3 with fail
  obtain ⟨w2, hw2⟩ : ∃ w2, w2 = w1.alloc (.cells #[S m, S dt, .slice oa on oc] 50) := ⟨_, rfl⟩
  rw [← hw2]
  have r1 : w2.heap[bn]? = some (.cells #[S n] 9 (0, 0)) := by rw [hw2]; exact heap_old q1
  have r3 : w2.heap[bm]? = some (.cells #[.pointer (some ⟨b, 0, none⟩)] 76 (0, 0)) := by rw [hw2]; exact heap_old q3
  have r4 : MBox w2 b (.slice (some ⟨g, 0, none⟩) l.length cap) off' f' := by rw [hw2]; exact heap_old q4
  have r5 : OwnF w2 B (.slice (some ⟨g, 0, none⟩) l.length cap) l := by rw [hw2]; exact World.ownsRow.alloc q5 _
  have r6 : w2.heap[w1.heap.size]? = some (.cells #[S m, S dt, .slice oa on oc] 50 (0, 0)) := by rw [hw2]; exact heap_alloc_new _ _
  have hz2 : w2.heap.size = w1.heap.size + 1 := by rw [hw2]; simp
  have hB2 : Below w.heap.size w w2 := by rw [hw2]; exact hb1.alloc hz1 _
  clear hw2 y2 q1 q2 q3 q4 q5 c1 c2 c3 c4 e1 e2 e3
  have CD := drop15_walk B b (.slice (some ⟨g, 0, none⟩) l.length cap) off' f' l n w2 r4 r5 (by omega) l4 HONE.out (by omega) HUP.out
  have c1 := heap_cell r1 (j := 0) (v := S n) rfl
  have c3 := heap_cell r3 (j := 0) (v := .pointer (some ⟨b, 0, none⟩)) rfl
  go_wp2_with fail
  refine CD.mono ?_
  rintro e w3 ⟨rfl, v3, hm3, hown3, hal3, hoth3⟩
  have hz3 := hal3.size
  have s3 := (hal3.other l3 l11).trans r3
  have s6 := (hoth3 w1.heap.size (by omega) (fun e => by have h9 : g = w1.heap.size := Option.some.inj e; omega) (by omega)).trans r6
  have hone3 : ∀ x ∈ withoutK DF.name l n, x.ov.oneCell' = true := fun x hx => HONE.out x (withoutK_mem hx)
  have CS := mset_walk B b v3 off' f' (withoutK DF.name l n) ⟨m, dt, .slice oa on oc, os⟩ w3 hm3 hown3 (by omega) l4 hone3 ⟨_, _, _, rfl⟩ (by have : (withoutK DF.name l n).length ≤ l.length := List.length_filter_le _ _; omega) HUPW.out
  have d3 := heap_cell s3 (j := 0) (v := .pointer (some ⟨b, 0, none⟩)) rfl
  have d0 := heap_cell s6 (j := 0) (v := S m) rfl
  have d1 := heap_cell s6 (j := 1) (v := S dt) rfl
  have d2 := heap_cell s6 (j := 2) (v := .slice oa on oc) rfl
  clear CD hm3 hown3 r1 r3 r4 r5 r6 c1 c3 hoth3 hone3
  go_wp2_with fail
  refine CS.mono ?_
  rintro e w4 ⟨rfl, v4, hm4, hown4, hal4, _⟩
  have hold : ∀ i, i < w0.heap.size → w4.heap[i]? = w0.heap[i]? := fun i hi => (hal4.below.block i (by omega)).trans ((hal3.below.block i (by omega)).trans ((hB2.block i (by omega)).trans (HOLD.out i hi)))
  try go_wp2
  go_end0
  refine ⟨rfl, v4, _, hm4, filesx_own hown4 l5 (fun x hx => ?_), by rw [withF_los, withoutF_los, HFO.out]; rfl, ((hB2.mono (by omega)).trans hal3.below).trans hal4.below, (hal4.same r l7 l5).trans ((hal3.same r l7 l5).trans (hB2.block r (by omega)))⟩
  rcases withK_mem hx with rfl | hx
  · exact opsx_old HOPK.out hold
  · exact opsx_old (HOPZ.out x (withoutK_mem hx)) hold

set_option maxHeartbeats 8000000 in
set_option maxRecDepth 100000 in
theorem prename_walk (Z : Nat → Prop) (v : Value) (off : Bool) (fuse : Int) (l : List DF) (n m : List UInt8) (w : World) (hZ : ∀ k, Z k → k < w.heap.size) (hzf : FilesZ Z w v l) (hcnt : l.length ≤ 1000) (hup : upS (l.map DF.name)) (hf1 : -1 ≤ fuse) (hf2 : fuse ≤ 1048576) (hml : m.length ≤ 1000000) :
    Calls Try.prog 26 #[DiskV v off fuse, S n, S m] w (DiskPost Z (renameD (los l, off, fuse) n m) w) := by
  have HZZ := Lib.hid hZ
  have HZF := Lib.hid hzf
  have hr := hzf.here
  clear hzf hZ
  have hrv := hr
  obtain ⟨⟨a, c, rfl, hc, hcm, hxx⟩, hyy⟩ := hrv
  clear hxx hyy hc hcm
  have hwn : wrongN (los l, off, fuse) n = if decide (n ∈ l.map DF.name) = true then 0 else 5 := by
    unfold wrongN
    by_cases hin : n ∈ l.map DF.name
    · obtain ⟨hk, _, hf⟩ := findF_in hup hin
      rw [hf]; simp [hin]
    · rw [findF_out hin]; simp [hin]
  have HW := Lib.hid (show renameD (los l, off, fuse) n m = actD (los l, off, fuse) (if nameB m = false then 7 else wrongN (los l, off, fuse) n) (withF (withoutF (los l) n) (m, (fileOf (los l, off, fuse) n).2)) from rfl)
  rw [hwn] at HW
  have HIN := Lib.hid (show (if nameB m = false then (7 : Int) else if decide (n ∈ l.map DF.name) = true then 0 else 5) = 0 → n ∈ l.map DF.name by
    intro h
    split at h
    · cases h
    · split at h
      · rename_i h2; simpa using h2
      · cases h)
  generalize renameD (los l, off, fuse) n m = res at *
  clear hwn
  obtain ⟨A0, hA0⟩ : ∃ A, A = w.alloc (.cells #[.slice a l.length c, .bool off, .int .i64 fuse] 35) := ⟨_, rfl⟩
  obtain ⟨A1, hA1⟩ : ∃ A, A = A0.alloc (.cells #[S n] 9) := ⟨_, rfl⟩
  obtain ⟨A2, hA2⟩ : ∃ A, A = A1.alloc (.cells #[S m] 9) := ⟨_, rfl⟩
  obtain ⟨A3, hA3⟩ : ∃ A, A = A2.alloc (.cells #[.slice none 0 0, .bool false, .int .i64 0] 35) := ⟨_, rfl⟩
  obtain ⟨A4, hA4⟩ : ∃ A, A = A3.alloc (.cells #[.slice a l.length c, .bool off, .int .i64 fuse] 78) := ⟨_, rfl⟩
  obtain ⟨A5, hA5⟩ : ∃ A, A = A4.alloc (.cells #[.pointer (some ⟨w.heap.size + 1 + 1 + 1 + 1, 0, none⟩)] 76) := ⟨_, rfl⟩
  have z0 : A0.heap.size = w.heap.size + 1 := by rw [hA0]; simp
  have z1 : A1.heap.size = w.heap.size + 1 + 1 := by rw [hA1, World.size_alloc, z0]
  have z2 : A2.heap.size = w.heap.size + 1 + 1 + 1 := by rw [hA2, World.size_alloc, z1]
  have z3 : A3.heap.size = w.heap.size + 1 + 1 + 1 + 1 := by rw [hA3, World.size_alloc, z2]
  have z4 : A4.heap.size = w.heap.size + 1 + 1 + 1 + 1 + 1 := by rw [hA4, World.size_alloc, z3]
  have z5 : A5.heap.size = w.heap.size + 1 + 1 + 1 + 1 + 1 + 1 := by rw [hA5, World.size_alloc, z4]
  have hB5 : Below w.heap.size w A5 := by
    rw [hA5, hA4, hA3, hA2, hA1, hA0]
    exact (((((Below.refl _ w).alloc (Nat.le_refl _) _).alloc (by simp) _).alloc (by simp; omega) _).alloc (by simp; omega) _).alloc (by simp; omega) _ |>.alloc (by simp; omega) _
  go_enter Try.func26, Try.ntmps26
  go_upto_region 2 with fail
  rw [← hA0, ← hA1, ← hA2, ← hA3, ← hA4, ← hA5]
  have m0 : A5.heap[w.heap.size]? = some (.cells #[.slice a l.length c, .bool off, .int .i64 fuse] 35 (0, 0)) := by rw [hA5, hA4, hA3, hA2, hA1]; exact heap_old (heap_old (heap_old (heap_old (heap_old (by rw [hA0]; exact heap_alloc_new w _)))))
  have m1 : A5.heap[w.heap.size + 1]? = some (.cells #[S n] 9 (0, 0)) := by rw [hA5, hA4, hA3, hA2]; exact heap_old (heap_old (heap_old (heap_old (by rw [hA1]; exact heap_new' z0.symm _))))
  have m2 : A5.heap[w.heap.size + 1 + 1]? = some (.cells #[S m] 9 (0, 0)) := by rw [hA5, hA4, hA3]; exact heap_old (heap_old (heap_old (by rw [hA2]; exact heap_new' z1.symm _)))
  have m3 : A5.heap[w.heap.size + 1 + 1 + 1]? = some (.cells #[.slice none 0 0, .bool false, .int .i64 0] 35 (0, 0)) := by rw [hA5, hA4]; exact heap_old (heap_old (by rw [hA3]; exact heap_new' z2.symm _))
  have m4 : MBox A5 (w.heap.size + 1 + 1 + 1 + 1) (.slice a l.length c) off fuse := by rw [hA5]; exact heap_old (by rw [hA4]; exact heap_new' z3.symm _)
  have m5 : A5.heap[w.heap.size + 1 + 1 + 1 + 1 + 1]? = some (.cells #[.pointer (some ⟨w.heap.size + 1 + 1 + 1 + 1, 0, none⟩)] 76 (0, 0)) := by rw [hA5]; exact heap_new' z4.symm _
  clear hA0 hA1 hA2 hA3 hA4 hA5 z0 z1 z2 z3 z4
  generalize hb5 : w.heap.size + 1 + 1 + 1 + 1 + 1 = b5 at *
  generalize hb4 : w.heap.size + 1 + 1 + 1 + 1 = b4 at *
  generalize hb3 : w.heap.size + 1 + 1 + 1 = b3 at *
  generalize hb2 : w.heap.size + 1 + 1 = b2 at *
  generalize hb1 : w.heap.size + 1 = b1 at *
  generalize hb0 : w.heap.size = b0 at *
  have CM := missing_walk b4 (.slice a l.length c) off fuse l n A5 m4 (hr.1.keep (fun i hi => hB5.block i (by omega))) (by omega) hup
  have HA := Lib.hid (fun (wr : Int) (hwr : wr = 0 → n ∈ l.map DF.name) (w3 : World) (n1 : w3.heap[b1]? = some (.cells #[S n] 9 (0, 0))) (n2 : w3.heap[b2]? = some (.cells #[S m] 9 (0, 0))) (n4 : MBox w3 b4 (.slice a l.length c) off fuse) (n5 : w3.heap[b5]? = some (.cells #[.pointer (some ⟨b4, 0, none⟩)] 76 (0, 0))) (hB : Below b0 w w3) =>
    act_walk Z b4 (.slice a l.length c) off fuse l wr 53 #[.pointer (some ⟨b5, 0, none⟩), .pointer (some ⟨b1, 0, none⟩), .pointer (some ⟨b2, 0, none⟩)] (withF (withoutF (los l) n) (m, (fileOf (los l, off, fuse) n).2)) w w3 n4 HZF.out ⟨hB.os, hB.tape, hB.output, hB.size, fun i hi => hB.block i (by omega)⟩ (by omega) (by omega) hf1 hf2 (enters_of Try.func53 (by kernel_rfl) rfl)
      (fun h0 f' v1 W1 hm1 hown1 hsz1 hsame1 => by
        have hlt5 := heap_lt n5
        exact rename1_walk Z (w3.heap.size + 1) b4 b1 b2 b5 w3.heap.size n m (.slice a l.length c) v1 off off fuse f' l w W1
          ((hsame1 b1 (by omega) (by omega)).trans n1) ((hsame1 b2 (by omega) (by omega)).trans n2) ((hsame1 b5 (by omega) (by omega)).trans n5) hm1 hown1
          ⟨by omega, by omega, by omega, by omega, by omega, hsz1, by omega, by omega, by omega, by omega, by omega⟩ hup hcnt HZF.out (hwr h0) (fun i hi => (hsame1 i (by omega) (by omega)).trans (hB.block i (by omega)))))
  have HZ := Lib.hid (And.intro hb0 (And.intro hb1 (And.intro hb2 (And.intro hb3 (And.intro hb4 (And.intro hb5 z5))))))
  have c1 := heap_cell m1 (j := 0) (v := S n) rfl
  have c5 := heap_cell m5 (j := 0) (v := .pointer (some ⟨b4, 0, none⟩)) rfl
  have hzA : b0 ≤ A5.heap.size := by omega
  generalize hwd : (if decide (n ∈ l.map DF.name) = true then (0 : Int) else 5) = wd at *
  clear hr hup hcnt hf1 hf2 hwd hb0 hb1 hb2 hb3 hb4 hb5 z5
  clear A0 A1 A2 A3 A4
  go_wp2_with fail
  refine CM.mono ?_
  rintro e w1 ⟨rfl, hbw⟩
  have hBW1 : Below b0 w w1 := hB5.trans (hbw.mono hzA)
  have k1 := box_kept hbw (heap_lt m1) m1
  have k2 := box_kept hbw (heap_lt m2) m2
  have k3 := box_kept hbw (heap_lt m3) m3
  have k4 : MBox w1 b4 _ off fuse := box_kept hbw (heap_lt m4) m4
  have k5 := box_kept hbw (heap_lt m5) m5
  have hz1 := hbw.size
  have CN := name_walk m w1 hml
  clear CM m0 m1 m2 m3 m4 m5 c1 c5
  have c2 := heap_cell k2 (j := 0) (v := S m) rfl
  generalize hq : nameB m = q at *
  clear hq
  go_wp2_with fail
  refine CN.mono ?_
  rintro e w2 ⟨rfl, hb2w⟩
  have hBW2 : Below b0 w w2 := hBW1.trans (hb2w.mono (Nat.le_trans hzA hz1))
  have j1 := box_kept hb2w (heap_lt k1) k1
  have j2 := box_kept hb2w (heap_lt k2) k2
  have j3 := box_kept hb2w (heap_lt k3) k3
  have j4 : MBox w2 b4 _ off fuse := box_kept hb2w (heap_lt k4) k4
  have j5 := box_kept hb2w (heap_lt k5) k5
  have c5 := heap_cell j5 (j := 0) (v := .pointer (some ⟨b4, 0, none⟩)) rfl
  clear CN k1 k2 k3 k4 k5 c2
  obtain ⟨wr, hwr, HIN2, HW2⟩ : ∃ wr, (if q = false then (7 : Int) else wd) = wr ∧ (wr = 0 → n ∈ l.map DF.name) ∧ Hid (res = actD (los l, off, fuse) wr (withF (withoutF (los l) n) (m, (fileOf (los l, off, fuse) n).2))) := ⟨_, rfl, HIN.out, HW⟩
  have CA := HA.out wr HIN2 w2 j1 j2 j4 j5 hBW2
  clear HA HIN HW HIN2
  have HJ3 := Lib.hid j3
  have hlt := heap_lt j5
  clear j1 j2 j3 j4 j5
  cases q
  all_goals
    simp only [Bool.true_eq_false, if_true, if_false] at hwr
    subst hwr
    go_wp2_with fail
    refine CA.mono ?_
    rintro e w5 ⟨v', off', fuse', l', err, rfl, hfx, hact, hb5'⟩
    obtain ⟨a', c', hv', hv2⟩ := hfx.here.1
    clear hv2
    subst hv'
    obtain ⟨hb0, hb1, hb2, hb3, hb4, hb5, z5⟩ := HZ.out
    have r3 := box_kept hb5' (show b3 < b4 by omega) HJ3.out
    have d0 := heap_cell r3 (j := 0) (v := .slice none 0 0) rfl
    have d1 := heap_cell r3 (j := 1) (v := .bool false) rfl
    have d2 := heap_cell r3 (j := 2) (v := .int .i64 0) rfl
    have s0 := is_some d0
    have s1 := is_some d1
    have s2 := is_some d2
    have f0 := heap_free r3 0
    have f1 := heap_free r3 1
    have f2 := heap_free r3 2
    have HFX := Lib.hid hfx
    have HACT := Lib.hid hact
    have HB5 := Lib.hid (hBW2.trans (hb5'.mono (show b0 ≤ b4 by omega)))
    have HZ2 := Lib.hid (And.intro hb0 (And.intro hb1 (And.intro hb2 (And.intro hb3 (And.intro hb4 (And.intro hb5 z5))))))
    clear hfx hact r3 hb5' hb0 hb1 hb2 hb3 hb4 hb5 z5 CA
    go_wp2
    refine bodyPost_ret (v := .tuple #[DiskV (.slice a' l'.length c') off' fuse', .int .i64 err]) (by simp [results, Try.results26, go_sem, s0, s1, s2]) rfl ?_
    obtain ⟨hb0, hb1, hb2, hb3, hb4, hb5, z5⟩ := HZ2.out
    have hz5 := HB5.out.size
    have hz3 := hBW2.size
    refine ⟨_, _, _, l', err, rfl, filesx_z HFX.out (b3 := b3) (by rw [size_setCell', size_setCell', size_setCell']) (fun k hk => ((Below.heap_setCell _ _ _ _ hk).trans (Below.heap_setCell _ _ _ _ hk)).trans (Below.heap_setCell _ _ _ _ hk)) ⟨by omega, by omega⟩ (by rw [hb0]; exact HZZ.out) (by omega) (by omega), by rw [HW2.out]; exact HACT.out, ?_⟩
    rw [hb0]
    exact below_setC (below_setC (below_setC HB5.out (by omega) 0 _) (by omega) 1 _) (by omega) 2 _
end Go.Proofs.Ythjoaoakadaieaa
