/- DiskCrashes: a disk behind a loss of power. -/
import Derived.Test.YthjoaoakadaieaaFew15
import Derived.Test.YthjoaoakadaieaaRSame15
import Derived.Test.YthjoaoakadaieaaRCrash15
import Derived.Test.YthjoaoakadaieaaHeld
namespace Go.Proofs.Ythjoaoakadaieaa
open Go.RowKit

theorem crash_names : ∀ (l : List LF) (ks : List Bool), (crashL l ks).map (·.1) = l.map (·.1)
  | [], _ => rfl
  | f :: l, ks => by rw [crashL, List.map_cons, crash_names l]; rfl
theorem crash_ok : ∀ (l : List LF) (ks : List Bool), l.any badF = false → (crashL l ks).any badF = false
  | [], _, _ => rfl
  | f :: l, ks, h => by
    rw [List.any_cons, Bool.or_eq_false_iff] at h
    rw [crashL, List.any_cons, Bool.or_eq_false_iff]
    refine ⟨?_, crash_ok l _ h.2⟩
    obtain ⟨h1, h2, h3, h4⟩ := (badF_iff _).1 h.1
    rw [badF_iff]
    exact ⟨h1, by simp, layKeep_len h3 h4, by simp⟩
theorem fit_parts {d : LD} (h : fitD d = true) : d.1.length ≤ 8 ∧ upN (d.1.map (·.1)) = true ∧ d.1.any badF = false := by
  simp only [fitD, Bool.and_eq_true, Bool.not_eq_true'] at h
  obtain ⟨h1, h2, h3⟩ := h
  simp only [headBad, Bool.or_eq_false_iff, decide_eq_false_iff_not] at h1
  exact ⟨by omega, h2, h3⟩
theorem crash_fit {d : LD} (ks : List Bool) (h : fitD d = true) : fitD (crashL d.1 ks, false, -1) = true := by
  obtain ⟨h1, h2, h3⟩ := fit_parts h
  have hl : (crashL d.1 ks).length = d.1.length := by have := congrArg List.length (crash_names d.1 ks); simpa using this
  have hh : headBad (crashL d.1 ks).length false (-1) = false := by
    rw [hl]; simp [headBad]; omega
  unfold fitD
  simp only [hh, crash_names, h2, crash_ok _ _ h3]
  rfl
theorem few_short {l : List DF} (h : FewP l) : ∀ x ∈ l, Short x := by
  intro x hx
  obtain ⟨h1, h2, h3, h4⟩ := h.2 x hx
  exact ⟨by omega, by omega, by omega, fun o ho => by have := (h4 o ho).1; omega⟩

theorem name_len {n : List UInt8} (h : nameB n = true) : n.length ≤ 31 := by
  simp only [nameB, Bool.and_eq_true, Bool.not_eq_true', Bool.or_eq_false_iff, decide_eq_false_iff_not] at h
  omega
theorem FitL.short {l : List DF} {off : Bool} {fuse : Int} (h : FitL l off fuse) : ∀ x ∈ l, Short x := fun x hx => by
  obtain ⟨h1, h2, h3, h4⟩ := (badF_iff _).1 (h.ok x hx)
  have := name_len h1
  simp only [DF.lo] at *
  refine ⟨by omega, by omega, by omega, fun o ho => ?_⟩
  have := (badO_iff o).1 (h4 o ho)
  omega

set_option maxHeartbeats 8000000 in
set_option maxRecDepth 100000 in
theorem crashes_walk (v : Value) (off : Bool) (fuse : Int) (l : List DF) (kv : Value) (ks : List Bool) (w : World) (hr : FilesR w v l) (hkr : Row boolC w kv ks) :
    Calls Try.prog 4 #[DiskV v off fuse, kv] w fun e w' => e = .returned (.bool true) ∧ Below w.heap.size w w' := by
  have hb0 : Below w.heap.size w (w.alloc (DCells v off fuse)) := (Below.refl _ _).alloc (Nat.le_refl _) _
  have hx0 := heap_alloc_new w (DCells v off fuse)
  have C := few_walk v off fuse l (w.alloc (DCells v off fuse)) (hr.below hb0)
  obtain ⟨a, c, rfl, hc, hcm, _⟩ := hr.1
  have hkv := hkr
  obtain ⟨ak, kc, rfl, hkc, hkm, _⟩ := hkv
  go_enter Try.func4, Try.ntmps4
  go_wp2_with fail
  refine C.mono ?_
  rintro e w1 ⟨b, rfl, hfew, hb1⟩
  have hB1 := below_chain hb0 hb1 hb0.size
  have hx1 := (hb1.block _ (heap_lt hx0)).trans hx0
  have hr1 := hr.below hB1
  have hkr1 := hkr.below hB1
  clear C hx0 hb0 hb1
  cases b with
  | false =>
    have CA := awake15_walk w1
    go_wp2_with fail
    refine CA.mono ?_
    rintro e w2 ⟨rfl, hb2⟩
    have hB2 := below_chain hB1 hb2 hB1.size
    go_wp2
    go_ret
    exact ⟨rfl, hB2⟩
  | true =>
  have hF := hfew rfl
  have HF := Lib.hid hF
  have hl12 := hF.1
  have y0 := heap_cell hx1 (j := 0) (v := .slice a l.length c) rfl
  have y1 := heap_cell hx1 (j := 1) (v := .bool off) rfl
  have y2 := heap_cell hx1 (j := 2) (v := .int .i64 fuse) rfl
  clear hF hfew
  by_cases g1 : 2000 < ks.length
  · have g1' : (2000 : Int) < (ks.length : Int) := by omega
    have CA := awake15_walk w1
    go_wp2_with fail
    refine CA.mono ?_
    rintro e w2 ⟨rfl, hb2⟩
    have hB2 := below_chain hB1 hb2 hB1.size
    go_wp2
    go_ret
    exact ⟨rfl, hB2⟩
  have g1' : ¬ (2000 : Int) < (ks.length : Int) := by omega
  have C2 := rfit15_walk (.slice a l.length c) off fuse l w1 hr1 (by omega) (few_short HF.out)
  obtain ⟨q, hq⟩ : ∃ q, fitD (los l, off, fuse) = q := ⟨_, rfl⟩
  rw [hq] at C2
  cases q with
  | false =>
    go_wp2_with fail
    refine C2.mono ?_
    rintro e w2 ⟨rfl, hb2⟩
    have hB2 := below_chain hB1 hb2 hB1.size
    have CA := awake15_walk w2
    go_wp2_with fail
    refine CA.mono ?_
    rintro e w3 ⟨rfl, hb3⟩
    have hB3 := below_chain hB2 hb3 hB2.size
    go_wp2
    go_ret
    exact ⟨rfl, hB3⟩
  | true =>
  go_wp2_with fail
  refine C2.mono ?_
  rintro e w2 ⟨rfl, hb2⟩
  have hB2 := below_chain hB1 hb2 hB1.size
  have hx2 := (hb2.block _ (heap_lt hx1)).trans hx1
  have hr2 := hr1.below hb2
  have hkr2 := hkr1.below hb2
  have FL := fit_get hq
  have z0 := heap_cell hx2 (j := 0) (v := .slice a l.length c) rfl
  have z1 := heap_cell hx2 (j := 1) (v := .bool off) rfl
  have z2 := heap_cell hx2 (j := 2) (v := .int .i64 fuse) rfl
  have C3 := pcrash_walk (.slice a l.length c) (.slice ak ks.length kc) off fuse l ks w2 hr2 hkr2 (by omega) (by omega) FL.ok
  clear C2 y0 y1 y2 hx1 hr1 hkr1 hb2
  go_wp2_with fail
  refine C3.mono ?_
  rintro e w3 ⟨v3, l3, rfl, hr3, h3, hb3⟩
  have hB3 := below_chain hB2 hb3 hB2.size
  have hrv := hr3
  obtain ⟨⟨a3, c3, rfl, _⟩, _⟩ := hrv

  obtain ⟨w4, hw4, hb4, hx4⟩ : ∃ w4, w4 = w3.alloc (DCells (.slice a3 l3.length c3) false (-1)) ∧ Below w3.heap.size w3 w4 ∧ w4.heap[w3.heap.size]? = some (DCells (.slice a3 l3.length c3) false (-1)) := ⟨_, rfl, (Below.refl _ _).alloc (Nat.le_refl _) _, heap_alloc_new _ _⟩
  clear C3 z0 z1 z2
  go_wp2_with fail
  rw [← hw4]
  have hx2' := (hb3.block _ (heap_lt hx2)).trans hx2
  have hx5 := (hb4.block _ (heap_lt hx2')).trans hx2'
  have m0 := LaterOf.cell (heap_cell hx5 (j := 0) (v := .slice a l.length c) rfl)
  have m1 := LaterOf.cell (heap_cell hx5 (j := 1) (v := .bool off) rfl)
  have m2 := LaterOf.cell (heap_cell hx5 (j := 2) (v := .int .i64 fuse) rfl)
  have n0 := LaterOf.cell (heap_cell hx4 (j := 0) (v := .slice a3 l3.length c3) rfl)
  have n1 := LaterOf.cell (heap_cell hx4 (j := 1) (v := .bool false) rfl)
  have n2 := LaterOf.cell (heap_cell hx4 (j := 2) (v := .int .i64 (-1)) rfl)
  (refine wp_held (by kernel_rfl) ?_; intro lw)
  (refine wpAnyH_take (i := 0) (v := ?_) rfl (by kernel_rfl) (by kernel_rfl) (by kernel_rfl) (fun _ _ _ h => h) (Or.inl ⟨by rfl, ?_⟩) ⟨_, rfl⟩ ?_; rotate_left; (intro w9 hS9; obtain ⟨p9, hp9⟩ := hS9; subst hp9; go_simp; try with_reducible rfl))
  (refine wpAnyH_take (i := 1) (v := ?_) rfl (by kernel_rfl) (by kernel_rfl) (by kernel_rfl) (fun _ _ _ h => h) (Or.inl ⟨by rfl, ?_⟩) ⟨_, rfl⟩ ?_; rotate_left; (intro w9 hS9; obtain ⟨p9, hp9⟩ := hS9; subst hp9; go_simp; try with_reducible rfl))
  (refine wpAnyH_take (i := 2) (v := ?_) rfl (by kernel_rfl) (by kernel_rfl) (by kernel_rfl) (fun _ _ _ h => h) (Or.inl ⟨by rfl, ?_⟩) ⟨_, rfl⟩ ?_; rotate_left; (intro w9 hS9; obtain ⟨p9, hp9⟩ := hS9; subst hp9; go_simp; try with_reducible rfl))
  have C4 := rcrash15_walk (.slice a l.length c) (.slice ak ks.length kc) off fuse l ks lw.world (((hr2.below hb3).below hb4).below lw.below) (((hkr2.below hb3).below hb4).below lw.below) (by omega) (by omega) FL.ok
  (refine wpAnyH_one (i := 3) (by kernel_rfl) rfl (fun K hK => ?_); go_simp; refine (C4).mono ?_; rintro e wz ⟨v5, l5, rfl, hr5, h5, hb5⟩; (obtain ⟨lw5, rfl⟩ : ∃ p : LaterOf _, wz = p.world := ⟨⟨wz, below_chain lw.below hb5 lw.below.size⟩, rfl⟩); refine hK _ _ ⟨lw5, rfl⟩ ?_; clear hK K)
  obtain ⟨a5, c5, rfl, hq5⟩ := hr5.1
  have HQ5 := Lib.hid hq5
  clear hq5
  have hr35 := ((hr3.below hb4).below lw.below).below hb5
  have F3 := fit_get (l := l3) (off := false) (fuse := -1) (by rw [h3]; exact crash_fit ks hq)
  have C5 := rsame15_walk (.slice a3 l3.length c3) (.slice a5 l5.length c5) false false (-1) (-1) l3 l5 lw5.world hr35 hr5 (by have := F3.len; omega) (fun x hx => by have := F3.opsl x hx; omega)
  rw [h3, h5, show (decide (((crashL (los l) ks, false, -1) : LD) = (crashL (los l) ks, false, -1))) = true by simp] at C5
  (refine wpAnyH_one (i := 4) (by kernel_rfl) rfl (fun K hK => ?_); go_simp; refine (C5).mono ?_; rintro e wz ⟨rfl, hb6⟩; (obtain ⟨lw6, rfl⟩ : ∃ p : LaterOf _, wz = p.world := ⟨⟨wz, below_chain lw5.below hb6 lw5.below.size⟩, rfl⟩); refine hK _ _ ⟨lw6, rfl⟩ ?_; clear hK K)
  (refine wpAnyH_one (i := 5) (by kernel_rfl) rfl (fun K hK => ?_); go_simp; refine hK _ _ ⟨_, rfl⟩ ?_; clear hK K)
  (refine wpAnyH_one (i := 6) (by kernel_rfl) rfl (fun K hK => ?_); go_simp; refine hK _ _ ⟨_, rfl⟩ ?_; clear hK K)
  have C6 := rfit15_walk (.slice a3 l3.length c3) false (-1) l3 lw6.world (hr35.below hb6) (by have := F3.len; omega) F3.short
  rw [h3, crash_fit ks hq] at C6
  (refine wpAnyH_one (i := 7) (by kernel_rfl) rfl (fun K hK => ?_); go_simp; refine (C6).mono ?_; rintro e wz ⟨rfl, hb7⟩; (obtain ⟨lw7, rfl⟩ : ∃ p : LaterOf _, wz = p.world := ⟨⟨wz, below_chain lw6.below hb7 lw6.below.size⟩, rfl⟩); refine hK _ _ ⟨lw7, rfl⟩ ?_; clear hK K)
  (refine wpAnyH_one (i := 8) (by kernel_rfl) rfl (fun K hK => ?_); go_simp; refine hK _ _ ⟨_, rfl⟩ ?_; clear hK K)
  (refine wpAnyH_one (i := 9) (by kernel_rfl) rfl (fun K hK => ?_); go_simp; refine hK _ _ ⟨_, rfl⟩ ?_; clear hK K)
  (refine wpAnyH_one (i := 10) (by kernel_rfl) rfl (fun K hK => ?_); go_simp; refine (awake15_walk _).mono ?_; rintro e wz ⟨rfl, hb8⟩; (obtain ⟨lw8, rfl⟩ : ∃ p : LaterOf _, wz = p.world := ⟨⟨wz, below_chain lw7.below hb8 lw7.below.size⟩, rfl⟩); refine hK _ _ ⟨lw8, rfl⟩ ?_; clear hK K)
  (refine wpAnyH_one (i := 11) (by kernel_rfl) rfl (fun K hK => ?_); go_simp; refine hK _ _ ⟨_, rfl⟩ ?_; clear hK K)
  (refine wpAnyH_one (i := 12) (by kernel_rfl) rfl (fun K hK => ?_); go_simp; refine hK _ _ ⟨_, rfl⟩ ?_; clear hK K)
  (refine wpAnyH_done (by kernel_rfl) ?_ _)
  go_wp2
  go_ret
  exact ⟨rfl, below_chain (below_chain hB3 hb4 hB3.size) lw8.below (below_chain hB3 hb4 hB3.size).size⟩
end Go.Proofs.Ythjoaoakadaieaa
