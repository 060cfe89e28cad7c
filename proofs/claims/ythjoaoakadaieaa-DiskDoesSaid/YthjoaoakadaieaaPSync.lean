/- The program's Sync. -/
import Derived.Test.YthjoaoakadaieaaPWrite
import Derived.Test.YthjoaoakadaieaaTail
namespace Go.Proofs.Ythjoaoakadaieaa
open Go.RowKit

set_option maxHeartbeats 4000000 in
set_option maxRecDepth 100000 in
theorem sync1_walk (Z : Nat → Prop) (B b bd bn bm r : Nat) (n : List UInt8) (v0 v : Value) (off off' : Bool) (fuse f' : Int) (l : List DF) (w0 w : World)
    (hd : w.heap[bd]? = some (.cells #[v0, .bool off, .int .i64 fuse] 35 (0, 0))) (hn : w.heap[bn]? = some (.cells #[S n] 9 (0, 0)))
    (hp : w.heap[bm]? = some (.cells #[.pointer (some ⟨b, 0, none⟩)] 76 (0, 0))) (hm : MBox w b v off' f') (hown : OwnF w B v l)
    (lt : bd < B ∧ bn < B ∧ bm < B ∧ b < B ∧ r < B ∧ B ≤ w.heap.size ∧ b < r ∧ w0.heap.size ≤ b) (hup : upS (l.map DF.name)) (hcnt : l.length ≤ 1000) (hzf : FilesZ Z w0 v0 l) (hok : ∀ x ∈ l, badF x.lo = false)
    (old : ∀ i, i < w0.heap.size → w.heap[i]? = w0.heap[i]?) :
    Calls Try.prog 52 #[.pointer (some ⟨bd, 0, none⟩), .pointer (some ⟨bn, 0, none⟩), .pointer (some ⟨bm, 0, none⟩)] w (WrPost Z w0.heap.size b r off' f' (withF (los l) (n, (readD (los l, off, fuse) n).1, [])) w) := by
  obtain ⟨l1, l2, l3, l4, l5, l6, l7, l8⟩ := lt
  have HOPZ := Lib.hid hzf.ops
  have hr := hzf.here
  clear hzf
  have C := pread15_walk v0 off fuse l n w ⟨hr.1.keep old, fun x hx => (hr.2 x hx).keep old⟩ (by omega) hup hok
  obtain ⟨a, c, rfl, _⟩ := hr.1
  have HOPS := Lib.hid hr.2
  have hone : ∀ x ∈ l, x.ov.oneCell' = true := fun x hx => oprow_one (hr.2 x hx)
  have HONE := Lib.hid hone
  have HOLD := Lib.hid old
  have HUP := Lib.hid hup
  generalize readD (los l, off, fuse) n = rd at *
  obtain ⟨sd, ok⟩ := rd
  simp only at C
  have d0 := heap_cell hd (j := 0) (v := .slice a l.length c) rfl
  have d1 := heap_cell hd (j := 1) (v := .bool off) rfl
  have d2 := heap_cell hd (j := 2) (v := .int .i64 fuse) rfl
  have n0 := heap_cell hn (j := 0) (v := S n) rfl
  have HALL := Lib.hid (And.intro hn (And.intro hp (And.intro hm hown)))
  clear hr hok hone old hup hd hn hp hm hown
  go_enter Try.func52, Try.ntmps52
  go_wp2_with fail
  refine C.mono ?_
  rintro e w1 ⟨rfl, hb1⟩
  obtain ⟨hn, hp, hm, hown⟩ := HALL.out
  have q1 := box_kept hb1 (heap_lt hn) hn
  have q2 := box_kept hb1 (heap_lt hp) hp
  have q3 : MBox w1 b v off' f' := box_kept hb1 (heap_lt hm) hm
  have q4 : OwnF w1 B v l := own_keep hown (fun g _ hg => hb1.block g hg)
  have c1 := heap_cell q1 (j := 0) (v := S n) rfl
  have c2 := heap_cell q2 (j := 0) (v := .pointer (some ⟨b, 0, none⟩)) rfl
  have hz1 := hb1.size
  have CS := mset_walk B b v off' f' l ⟨n, sd, .slice none 0 0, []⟩ w1 q3 q4 (by omega) l4 HONE.out ⟨_, _, _, rfl⟩ (by omega) HUP.out
  have HB1 := Lib.hid hb1
  clear hn hp hm hown q1 q2 q3 q4 hb1 C
  go_wp2_with fail
  refine CS.mono ?_
  rintro e w2 ⟨rfl, v2, hm2, hown2, hal, _⟩
  try go_wp2
  go_end0
  refine ⟨rfl, v2, _, hm2, filesx_own hown2 l5 (fun x hx => ?_), by rw [withF_los]; rfl, (HB1.out.mono (by omega)).trans hal.below, (hal.same r l7 l5).trans (HB1.out.block r (by omega))⟩
  have hold : ∀ i, i < w0.heap.size → w2.heap[i]? = w0.heap[i]? := fun i hi => (hal.below.block i (by omega)).trans ((HB1.out.block i (by omega)).trans (HOLD.out i hi))
  rcases withK_mem hx with rfl | hx
  · exact opsx_old (fun W _ => Row.nil _ _) hold
  · exact opsx_old (HOPZ.out x hx) hold

set_option maxHeartbeats 8000000 in
set_option maxRecDepth 100000 in
theorem psync_walk (Z : Nat → Prop) (v : Value) (off : Bool) (fuse : Int) (l : List DF) (n : List UInt8) (w : World) (hZ : ∀ k, Z k → k < w.heap.size) (hzf : FilesZ Z w v l) (hcnt : l.length ≤ 1000) (hup : upS (l.map DF.name)) (hf1 : -1 ≤ fuse) (hf2 : fuse ≤ 1048576) (hok : ∀ x ∈ l, badF x.lo = false) :
    Calls Try.prog 25 #[DiskV v off fuse, S n] w (DiskPost Z (syncD (los l, off, fuse) n) w) := by
  have HZZ := Lib.hid hZ
  have HZF := Lib.hid hzf
  have hr := hzf.here
  clear hzf hZ
  have hrv := hr
  obtain ⟨⟨a, c, rfl, hc, hcm, hxx⟩, hyy⟩ := hrv
  clear hxx hyy hc hcm
  have hwn : wrongN (los l, off, fuse) n = if decide (n ∈ l.map DF.name) = true then 0 else 5 := by
    unfold wrongN
    by_cases hin : n ∈ l.map DF.name
    · obtain ⟨hk, _, hf⟩ := findF_in hup hin
      rw [hf]; simp [hin]
    · rw [findF_out hin]; simp [hin]
  have HW := Lib.hid (show syncD (los l, off, fuse) n = actD (los l, off, fuse) (wrongN (los l, off, fuse) n) (withF (los l) (n, (readD (los l, off, fuse) n).1, [])) from rfl)
  rw [hwn] at HW
  generalize syncD (los l, off, fuse) n = res at *
  clear hwn
  obtain ⟨A0, hA0⟩ : ∃ A, A = w.alloc (.cells #[.slice a l.length c, .bool off, .int .i64 fuse] 35) := ⟨_, rfl⟩
  obtain ⟨A1, hA1⟩ : ∃ A, A = A0.alloc (.cells #[S n] 9) := ⟨_, rfl⟩
  obtain ⟨A2, hA2⟩ : ∃ A, A = A1.alloc (.cells #[.slice none 0 0, .bool false, .int .i64 0] 35) := ⟨_, rfl⟩
  obtain ⟨A3, hA3⟩ : ∃ A, A = A2.alloc (.cells #[.slice a l.length c, .bool off, .int .i64 fuse] 78) := ⟨_, rfl⟩
  obtain ⟨A4, hA4⟩ : ∃ A, A = A3.alloc (.cells #[.pointer (some ⟨w.heap.size + 1 + 1 + 1, 0, none⟩)] 76) := ⟨_, rfl⟩
  have z0 : A0.heap.size = w.heap.size + 1 := by rw [hA0]; simp
  have z1 : A1.heap.size = w.heap.size + 1 + 1 := by rw [hA1, World.size_alloc, z0]
  have z2 : A2.heap.size = w.heap.size + 1 + 1 + 1 := by rw [hA2, World.size_alloc, z1]
  have z3 : A3.heap.size = w.heap.size + 1 + 1 + 1 + 1 := by rw [hA3, World.size_alloc, z2]
  have z4 : A4.heap.size = w.heap.size + 1 + 1 + 1 + 1 + 1 := by rw [hA4, World.size_alloc, z3]
  have hB4 : Below w.heap.size w A4 := by
    rw [hA4, hA3, hA2, hA1, hA0]
    exact ((((Below.refl _ w).alloc (Nat.le_refl _) _).alloc (by simp) _).alloc (by simp; omega) _).alloc (by simp; omega) _ |>.alloc (by simp; omega) _
  go_enter Try.func25, Try.ntmps25
  go_upto_region 2 with fail
  rw [← hA0, ← hA1, ← hA2, ← hA3, ← hA4]
  have m0 : A4.heap[w.heap.size]? = some (.cells #[.slice a l.length c, .bool off, .int .i64 fuse] 35 (0, 0)) := by rw [hA4, hA3, hA2, hA1]; exact heap_old (heap_old (heap_old (heap_old (by rw [hA0]; exact heap_alloc_new w _))))
  have m1 : A4.heap[w.heap.size + 1]? = some (.cells #[S n] 9 (0, 0)) := by rw [hA4, hA3, hA2]; exact heap_old (heap_old (heap_old (by rw [hA1]; exact heap_new' z0.symm _)))
  have m2 : A4.heap[w.heap.size + 1 + 1]? = some (.cells #[.slice none 0 0, .bool false, .int .i64 0] 35 (0, 0)) := by rw [hA4, hA3]; exact heap_old (heap_old (by rw [hA2]; exact heap_new' z1.symm _))
  have m3 : MBox A4 (w.heap.size + 1 + 1 + 1) (.slice a l.length c) off fuse := by rw [hA4]; exact heap_old (by rw [hA3]; exact heap_new' z2.symm _)
  have m4 : A4.heap[w.heap.size + 1 + 1 + 1 + 1]? = some (.cells #[.pointer (some ⟨w.heap.size + 1 + 1 + 1, 0, none⟩)] 76 (0, 0)) := by rw [hA4]; exact heap_new' z3.symm _
  clear hA0 hA1 hA2 hA3 hA4 z0 z1 z2 z3
  generalize hb4 : w.heap.size + 1 + 1 + 1 + 1 = b4 at *
  generalize hb3 : w.heap.size + 1 + 1 + 1 = b3 at *
  generalize hb2 : w.heap.size + 1 + 1 = b2 at *
  generalize hb1 : w.heap.size + 1 = b1 at *
  generalize hb0 : w.heap.size = b0 at *
  have HC := Lib.hid (fun (W : World) (h1 : MBox W b3 (.slice a l.length c) off fuse) (h2 : ∀ i, i < w.heap.size → W.heap[i]? = w.heap[i]?) => missing_walk b3 (.slice a l.length c) off fuse l n W h1 (hr.1.keep h2) (by omega) hup)
  have HA := Lib.hid (fun (wr : Int) (w3 : World) (n0 : w3.heap[b0]? = some (.cells #[.slice a l.length c, .bool off, .int .i64 fuse] 35 (0, 0))) (n1 : w3.heap[b1]? = some (.cells #[S n] 9 (0, 0))) (n3 : MBox w3 b3 (.slice a l.length c) off fuse) (n4 : w3.heap[b4]? = some (.cells #[.pointer (some ⟨b3, 0, none⟩)] 76 (0, 0))) (hB : Below b0 w w3) =>
    act_walk Z b3 (.slice a l.length c) off fuse l wr 52 #[.pointer (some ⟨b0, 0, none⟩), .pointer (some ⟨b1, 0, none⟩), .pointer (some ⟨b4, 0, none⟩)] (withF (los l) (n, (readD (los l, off, fuse) n).1, [])) w w3 n3 HZF.out ⟨hB.os, hB.tape, hB.output, hB.size, fun i hi => hB.block i (by omega)⟩ (by omega) (by omega) hf1 hf2 (enters_of Try.func52 (by kernel_rfl) rfl)
      (fun _ f' v1 W1 hm1 hown1 hsz1 hsame1 => by
        have hlt4 := heap_lt n4
        exact sync1_walk Z (w3.heap.size + 1) b3 b0 b1 b4 w3.heap.size n (.slice a l.length c) v1 off off fuse f' l w W1
          ((hsame1 b0 (by omega) (by omega)).trans n0) ((hsame1 b1 (by omega) (by omega)).trans n1) ((hsame1 b4 (by omega) (by omega)).trans n4) hm1 hown1
          ⟨by omega, by omega, by omega, by omega, by omega, hsz1, by omega, by omega⟩ hup hcnt HZF.out hok (fun i hi => (hsame1 i (by omega) (by omega)).trans (hB.block i (by omega)))))
  have HM := Lib.hid (And.intro m0 (And.intro m1 (And.intro m2 (And.intro m3 m4))))
  have c1 := heap_cell m1 (j := 0) (v := S n) rfl
  have c4 := heap_cell m4 (j := 0) (v := .pointer (some ⟨b3, 0, none⟩)) rfl
  have HB4 := Lib.hid hB4
  generalize (if decide (n ∈ l.map DF.name) = true then (0 : Int) else 5) = wr at *
  clear m0 m1 m2 m3 m4 hr hup hok hB4 hcnt hf1 hf2
  clear A0 A1 A2 A3
  have HZ := Lib.hid (And.intro hb0 (And.intro hb1 (And.intro hb2 (And.intro hb3 (And.intro hb4 z4)))))
  have HLA := Lib.hid (show b0 ≤ A4.heap.size by omega)
  have CM := fun (p : LaterOf A4) => HC.out p.world (box_kept p.below (heap_lt HM.out.2.2.2.1) HM.out.2.2.2.1) (fun i hi => (p.below.block i (by omega)).trans (HB4.out.block i (by omega)))
  have l1 := LaterOf.cell c1
  have l4 := LaterOf.cell c4
  clear hb0 hb1 hb2 hb3 hb4 z4 HC c1 c4
  (refine wp_tail_later 5 5 rfl (by kernel_rfl) (by kernel_rfl) (by kernel_rfl) (by kernel_rfl) ?_; simp only [List.take_succ_cons, List.take_zero]; (repeat (go_big_quiet_step ((go_at_call 51; exact LaterOf.call _ (CM _))))); refine wpQuiet_nil ?_; intro _ hw1; obtain ⟨lw, hw2⟩ := hw1; subst hw2)
  obtain ⟨hb0, hb1, hb2, hb3, hb4, z4⟩ := HZ.out
  obtain ⟨m0, m1, m2, m3, m4⟩ := HM.out
  have n0 := box_kept lw.below (heap_lt m0) m0
  have n1 := box_kept lw.below (heap_lt m1) m1
  have n2 := box_kept lw.below (heap_lt m2) m2
  have n3 := box_kept lw.below (heap_lt m3) m3
  have n4 := box_kept lw.below (heap_lt m4) m4
  have hbw1 : Below b0 w lw.world := HB4.out.trans (lw.below.mono HLA.out)
  clear m0 m1 m2 m3 m4 CM l1 l4
  (refine wpAny_ready (rs := [5]) (by kernel_rfl) (by simp) ?_; refine AllReady.cons rfl (fun K hK => ?_) AllReady.nil; go_simp; go_wp2_with ((go_at_call 47; (with_reducible refine (HA.out _ _ n0 n1 n3 n4 hbw1).mono ?_); rintro e w5 ⟨v', off', fuse', l', err, rfl, hfx, hact, hb5'⟩; obtain ⟨a', c', hv', hv2⟩ := hfx.here.1; clear hv2; subst hv'; have r3 := box_kept hb5' (show b2 < b3 by omega) n2; have d0 := heap_cell r3 (j := 0) (v := .slice none 0 0) rfl; have d1 := heap_cell r3 (j := 1) (v := .bool false) rfl; have d2 := heap_cell r3 (j := 2) (v := .int .i64 0) rfl; have s0 := is_some d0; have s1 := is_some d1; have s2 := is_some d2; have f0 := heap_free r3 0; have f1 := heap_free r3 1; have f2 := heap_free r3 2; have HFX := Lib.hid hfx; have HACT := Lib.hid hact; (have HB5 := Lib.hid (hbw1.trans (hb5'.mono (show b0 ≤ b3 by omega)))); have hz1 := heap_lt n4; clear hfx hact r3 hb5')))
  refine wpAny_ready (rs := [6, 7]) (by kernel_rfl) (by simp) ?_
  refine AllReady.cons rfl (fun K hK => ?_) (AllReady.cons rfl (fun K hK => ?_) AllReady.nil)
  all_goals (go_simp; refine hK _ _ ?_; clear hK K)
  · (refine wpAny_ready (rs := [7]) (by kernel_rfl) (by simp) ?_; refine AllReady.cons rfl (fun K hK => ?_) AllReady.nil; go_simp; refine hK _ _ ?_; clear hK K)
    (refine wpAny_ready (rs := [8]) (by kernel_rfl) (by simp) ?_; refine AllReady.cons rfl (fun K hK => ?_) AllReady.nil; go_simp; refine hK _ _ ?_; clear hK K)
    (refine wpAny_ready (rs := [9]) (by kernel_rfl) (by simp) ?_; refine AllReady.cons rfl (fun K hK => ?_) AllReady.nil; go_simp; refine hK _ _ ?_; clear hK K)
    refine wpAny_done (by kernel_rfl) ?_ _
    go_wp2
    refine bodyPost_ret (v := .tuple #[DiskV (.slice a' l'.length c') off' fuse', .int .i64 err]) (by simp [results, Try.results25, go_sem, s0, s1, s2]) rfl ?_
    have hz5 := HB5.out.size
    have hz3 := hbw1.size
    refine ⟨_, _, _, l', err, rfl, filesx_z HFX.out (b3 := b2) (by rw [size_setCell', size_setCell', size_setCell']) (fun k hk => ((Below.heap_setCell _ _ _ _ hk).trans (Below.heap_setCell _ _ _ _ hk)).trans (Below.heap_setCell _ _ _ _ hk)) ⟨by omega, by omega⟩ (by rw [hb0]; exact HZZ.out) (by omega) (by omega), by rw [HW.out]; exact HACT.out, ?_⟩
    · rw [hb0]
      exact below_setC (below_setC (below_setC HB5.out (by omega) 0 _) (by omega) 1 _) (by omega) 2 _
  · (refine wpAny_ready (rs := [6]) (by kernel_rfl) (by simp) ?_; refine AllReady.cons rfl (fun K hK => ?_) AllReady.nil; go_simp; refine hK _ _ ?_; clear hK K)
    (refine wpAny_ready (rs := [8]) (by kernel_rfl) (by simp) ?_; refine AllReady.cons rfl (fun K hK => ?_) AllReady.nil; go_simp; refine hK _ _ ?_; clear hK K)
    (refine wpAny_ready (rs := [9]) (by kernel_rfl) (by simp) ?_; refine AllReady.cons rfl (fun K hK => ?_) AllReady.nil; go_simp; refine hK _ _ ?_; clear hK K)
    refine wpAny_done (by kernel_rfl) ?_ _
    go_wp2
    refine bodyPost_ret (v := .tuple #[DiskV (.slice a' l'.length c') off' fuse', .int .i64 err]) (by simp [results, Try.results25, go_sem, s0, s1, s2]) rfl ?_
    have hz5 := HB5.out.size
    have hz3 := hbw1.size
    refine ⟨_, _, _, l', err, rfl, filesx_z HFX.out (b3 := b2) (by rw [size_setCell', size_setCell', size_setCell']) (fun k hk => ((Below.heap_setCell _ _ _ _ hk).trans (Below.heap_setCell _ _ _ _ hk)).trans (Below.heap_setCell _ _ _ _ hk)) ⟨by omega, by omega⟩ (by rw [hb0]; exact HZZ.out) (by omega) (by omega), by rw [HW.out]; exact HACT.out, ?_⟩
    · rw [hb0]
      exact below_setC (below_setC (below_setC HB5.out (by omega) 0 _) (by omega) 1 _) (by omega) 2 _
end Go.Proofs.Ythjoaoakadaieaa
