/- fetch.Reach. -/
import Derived.Test.YtaompdnnkfmjhaaGreatDoorJFetchW
namespace Go.Proofs.YtaompdnnkfmjhaaGreatDoor
open Go.RowKit
attribute [local go_sem] Oper.semAt_some

/-- Between two rounds of Reach. -/
def FI (n₀ : Nat) (w : World) (pre : List (List UInt8 × Bool)) (W : World) : Prop :=
  (∃ v, Boxed W n₀ 23 v ∧ W.ownsRow (n₀ + 4) 9 1 v pre.length (pre.map fun x => S x.1)) ∧ Boxed W (n₀ + 1) 4 (.bool (pre.all (·.2))) ∧ (Below n₀ w W ∧ n₀ + 4 ≤ W.heap.size) ∧ pre.length ≤ 1000000
theorem fi_bides (n₀ : Nat) (w : World) (N : Nat) (hN : n₀ + 4 ≤ N) : Bides2 (fun A r => outB n₀ A ≠ some r) N (FI n₀ w) := by
  rintro s A B row ⟨⟨v, h1, h2⟩, h3, ⟨h4, h5⟩, h6⟩ hg hr
  have hk : ∀ k, k < n₀ + 4 → B.heap[k]? = A.heap[k]? := fun k hk => hg.block k (by omega) (fun e => by have := (hr k e.symm).1; omega)
  refine ⟨⟨v, (hk _ (by omega)).trans h1, ?_⟩, (hk _ (by omega)).trans h3, ⟨h4.grown hg (by omega) (fun r e => by have := (hr r e).1; omega), Nat.le_trans h5 hg.size⟩, h6⟩
  refine h2.kept hg ?_
  rcases h2.2 with ⟨rfl, _⟩ | ⟨g, cap, cur, rfl, hbg, hgb, _⟩
  · exact .inl rfl
  · refine .inr fun e' => ?_
    rcases (hr g (by simpa [Value.ownBlock] using e'.symm)).2 with h7 | ⟨o, ho, hc⟩
    · rw [outB_box h1] at h7; exact h7 rfl
    · rw [hgb] at ho; cases ho; cases hc

/-- Behind an append to the row in the box. -/
theorem roundB {n₀ : Nat} {w W w1 : World} {pre : List (List UInt8 × Bool)} {v : Value} {tmp : Obj} (hI : FI n₀ w pre W) (hv : Boxed W n₀ 23 v) (hown : W.ownsRow (n₀ + 4) 9 1 v pre.length (pre.map fun x => S x.1))
    (hgrow : (W.drew.alloc tmp).grownBy w1 v.ownBlock) : (∀ k, k < W.heap.size → v.ownBlock ≠ some k → w1.heap[k]? = W.heap[k]?) ∧ Boxed w1 n₀ 23 v ∧ Boxed w1 (n₀ + 1) 4 (.bool (pre.all (·.2))) := by
  obtain ⟨-, h3, ⟨-, h5⟩, -⟩ := hI
  have hk : ∀ k, k < W.heap.size → v.ownBlock ≠ some k → w1.heap[k]? = W.heap[k]? := fun k hk hn =>
    (hgrow.block k (by rw [World.size_alloc]; exact Nat.lt_succ_of_lt hk) (fun e => hn e.symm)).trans (Below.heap_alloc W.drew tmp k hk)
  have hb : ∀ k, k < n₀ + 4 → v.ownBlock ≠ some k := fun k hk e => by have := (hown.lt k e).1; omega
  exact ⟨hk, (hk _ (by omega) (hb _ (by omega))).trans hv, (hk _ (by omega) (hb _ (by omega))).trans h3⟩
set_option maxHeartbeats 1000000 in
theorem roundF {n₀ : Nat} {w W w1 : World} {pre : List (List UInt8 × Bool)} {x : List UInt8 × Bool} {v v' : Value} {nb : Bool} {tmp : Obj} (hI : FI n₀ w pre W) (hv : Boxed W n₀ 23 v) (hown : W.ownsRow (n₀ + 4) 9 1 v pre.length (pre.map fun x => S x.1))
    (hlen : pre.length + 1 ≤ 1000000) (hnb : (pre.all (·.2) && x.2) = nb) (hown' : w1.ownsRow (n₀ + 4) 9 1 v' (pre.length + 1) ((pre.map fun x => S x.1) ++ [S x.1])) (hgrow : (W.drew.alloc tmp).grownBy w1 v.ownBlock)
    (hblk : v'.ownBlock = v.ownBlock ∨ v'.ownBlock = some (W.drew.alloc tmp).heap.size) :
    KeepsFrom (n₀ + 4) W ((w1.setCell ⟨n₀, 0, none⟩ v').setCell ⟨n₀ + 1, 0, none⟩ (.bool nb)) ∧ KpF n₀ (n₀ + 1) (n₀ + 4 + 1) W ((w1.setCell ⟨n₀, 0, none⟩ v').setCell ⟨n₀ + 1, 0, none⟩ (.bool nb)) ∧
      FI n₀ w (pre ++ [x]) ((w1.setCell ⟨n₀, 0, none⟩ v').setCell ⟨n₀ + 1, 0, none⟩ (.bool nb)) := by
  obtain ⟨hk, hv1, hb1⟩ := roundB hI hv hown hgrow
  obtain ⟨-, h3, ⟨h4, h5⟩, -⟩ := hI
  have hs1 : W.heap.size + 1 ≤ w1.heap.size := by have := hgrow.size; rw [World.size_alloc] at this; exact this
  have hset : ∀ k, k ≠ n₀ → k ≠ n₀ + 1 → ((w1.setCell ⟨n₀, 0, none⟩ v').setCell ⟨n₀ + 1, 0, none⟩ (.bool nb)).heap[k]? = w1.heap[k]? := fun k h1 h2 =>
    (Below.heap_setCell _ _ _ _ (show k ≠ n₀ + 1 from h2)).trans (Below.heap_setCell _ _ _ _ (show k ≠ n₀ from h1))
  have hbx : Boxed ((w1.setCell ⟨n₀, 0, none⟩ v').setCell ⟨n₀ + 1, 0, none⟩ (.bool nb)) n₀ 23 v' :=
    (Below.heap_setCell _ _ _ _ (show n₀ ≠ n₀ + 1 by omega)).trans (hv1.set v')
  have hbb : Boxed ((w1.setCell ⟨n₀, 0, none⟩ v').setCell ⟨n₀ + 1, 0, none⟩ (.bool nb)) (n₀ + 1) 4 (.bool nb) :=
    (show Boxed (w1.setCell ⟨n₀, 0, none⟩ v') (n₀ + 1) 4 (.bool (pre.all (·.2))) from (Below.heap_setCell _ _ _ _ (show n₀ + 1 ≠ n₀ by omega)).trans hb1).set _
  have hsz : ((w1.setCell ⟨n₀, 0, none⟩ v').setCell ⟨n₀ + 1, 0, none⟩ (.bool nb)).heap.size = w1.heap.size := by rw [size_setCell, size_setCell]
  have hown3 : ((w1.setCell ⟨n₀, 0, none⟩ v').setCell ⟨n₀ + 1, 0, none⟩ (.bool nb)).ownsRow (n₀ + 4) 9 1 v' (pre.length + 1) ((pre.map fun x => S x.1) ++ [S x.1]) :=
    own_block hown' (fun g hg => hset g (by have := (hown'.lt g hg).1; omega) (by have := (hown'.lt g hg).1; omega))
  have hbl : Below n₀ w1 ((w1.setCell ⟨n₀, 0, none⟩ v').setCell ⟨n₀ + 1, 0, none⟩ (.bool nb)) := (((Below.refl n₀ w1).setCell (p := ⟨n₀, 0, none⟩) (Nat.le_refl _) _).setCell (p := ⟨n₀ + 1, 0, none⟩) (Nat.le_succ _) _)
  generalize (w1.setCell ⟨n₀, 0, none⟩ v').setCell ⟨n₀ + 1, 0, none⟩ (.bool nb) = w3 at *
  have hoB : outB n₀ W = v.ownBlock := outB_box hv
  have hoB3 : outB n₀ w3 = v'.ownBlock := outB_box hbx
  refine ⟨⟨by rw [hsz]; omega, fun k ob hB hi ho => ?_⟩, ⟨by rw [hsz]; omega, fun k h1 h2 h3 _ h6 => ?_, ?_, fun _ g hg => ?_⟩, ⟨⟨v', hbx, ?_⟩, ?_, ⟨?_, by rw [hsz]; omega⟩, by simpa using hlen⟩⟩
  · have hlt := heap_lt hi
    refine (hset k (by omega) (by omega)).trans ((hk k hlt (fun e => ?_)).trans hi)
    rcases hown.2 with ⟨rfl, _⟩ | ⟨g, cap, cur, rfl, hbg, hgb, _⟩
    · simp [Value.ownBlock] at e
    · simp [Value.ownBlock] at e
      subst e
      rw [hgb] at hi; cases hi; cases ho
  · exact (hset k h2 h3).trans (hk k h1 (by rw [← hoB]; exact h6))
  · rw [hoB3, hoB]
    rcases hblk with h | h
    · exact .inl h
    · exact .inr ⟨_, h, by rw [World.size_alloc]; exact Nat.le_succ _⟩
  · rw [hoB3] at hg
    rw [hsz]; exact (hown'.lt g hg).2
  · rw [List.length_append, List.map_append]; exact hown3
  · rw [List.all_append, show [x].all (·.2) = x.2 by simp, hnb]; exact hbb
  · have hb1 : Below n₀ W w1 := ((Below.refl n₀ W).trans (⟨rfl, rfl, rfl, Nat.le_refl _, fun _ _ => rfl⟩ : Below n₀ W W.drew)).alloc (by show n₀ ≤ W.heap.size; omega) tmp |>.grown hgrow (by rw [World.size_alloc]; show n₀ ≤ W.heap.size + 1; omega) (fun r e => by have := (hown.lt r e).1; omega)
    exact (h4.trans hb1).trans hbl

set_option maxHeartbeats 4000000 in
set_option maxRecDepth 100000 in
theorem preach_walk (ov v : Value) (o : List Snp) (l : List (List UInt8)) (w : World) (ho : SnpRow w ov o) (hr : StrRow w v l) (hT : ErrT w) (hup : upS (namesR o)) (hol : o.length ≤ 1100000) (hraw : ∀ x ∈ o, x.2.length ≤ 1000000) (hcnt : 32 * l.length + rawsL o ≤ 32 * 1000000) :
    Calls Tryz.prog 29 #[ov, v] w (ReachPost o l w) := by
  obtain ⟨i0, hi, hz0, hz1, hz2⟩ := info_parts infoStr
  have HO := Lib.hid ho
  have HR := Lib.hid hr
  obtain ⟨la, lc, rfl, -⟩ := ho
  obtain ⟨fa, fc, rfl, -⟩ := hr
  refine (callsIn_wide (n := 3)).1 ?_
  refine callsIn_of_wp_marks Tryz.func29 rfl trivial ?_ rfl
  simp only [Tryz.ntmps29, List.size_toArray, List.length_cons, List.length_nil, Nat.reduceAdd, Nat.reduceSub, Array.replicate_succ, Array.replicate_zero, List.push_toArray, List.append_toArray, List.nil_append, List.cons_append]
  gi_wp2_with (refine ⟨trivial, ?_⟩; gi_at_call 51; refine (callsIn_wide.2 (fwalk_walk _ _ _ ⟨_, _, _, rfl⟩ ⟨_, _, _, rfl⟩)).mono ?_; rintro e w' ⟨rfl, rfl⟩)
  obtain ⟨w0, hw0, hB0, hS0, b0, b1, b2, b3⟩ : ∃ w0, w0 = (((w.alloc (.cells #[.slice none 0 0] 23)).alloc (.cells #[.bool true] 4)).alloc (.cells #[.slice la o.length lc] 22)).alloc (.cells #[.slice fa l.length fc] 23) ∧ Below w.heap.size w w0 ∧ w0.heap.size = w.heap.size + 4 ∧
      Boxed w0 w.heap.size 23 (.slice none 0 0) ∧ Boxed w0 (w.heap.size + 1) 4 (.bool true) ∧ Boxed w0 (w.heap.size + 2) 22 (.slice la o.length lc) ∧ Boxed w0 (w.heap.size + 3) 23 (.slice fa l.length fc) := by
    refine ⟨_, rfl, ((((Below.refl _ _).alloc (Nat.le_refl _) _).alloc (by simp) _).alloc (by simp; omega) _).alloc (by simp; omega) _, by simp, ?_, ?_, ?_, ?_⟩
    · exact heap_old (heap_old (heap_old (heap_alloc_new w _)))
    · exact heap_old (heap_old (heap_new' (by simp) _))
    · exact heap_old (heap_new' (by simp) _)
    · exact heap_new' (by simp) _
  rw [← hw0]
  clear hw0
  have hout : outB w.heap.size w0 = none := by rw [outB_box b0]; rfl
  refine range_law2 (gf := 73) (lb := #[.pointer (some ⟨w.heap.size + 3, 0, none⟩), .pointer (some ⟨w.heap.size + 2, 0, none⟩)]) rfl (enters_of Tryz.func73 (by kernel_rfl) rfl)
    (walk_iter w.heap.size (w.heap.size + 1) (w.heap.size + 3) (w.heap.size + 2) fa la fc lc o l w w0 b3 b2 HR.out HO.out hT (fun k hk => hB0.block k hk) hB0.size ⟨Nat.le_refl _, by omega⟩ ⟨by omega, by omega⟩ ⟨by omega, by omega⟩ ⟨by omega, by omega⟩ hout hup hol hraw hcnt)
    (fun h k => h.trans k) (fun W o => KpF.put o (by omega)) (fun o o' => ((KpF.refl (fun g hg => by rw [hout] at hg; cases hg)).grown (World.grownBy_alloc _ o none) (fun r e => by cases e) (by omega)).grown (World.grownBy_alloc _ o' none) (fun r e => by cases e) (by omega)) (fun x => rfl)
    (FI w.heap.size w) (fun _ _ _ => False) (fi_bides _ _ _ (by omega)) (fun c s A B row h _ _ => h) ⟨⟨_, b0, World.ownsRow_nil _ _ _ _⟩, b1, ⟨hB0, by omega⟩, by simp⟩
    (fun x a' _ => a' = { tmps := #[.slice la o.length lc, .slice fa l.length fc, undef, undef, .slice none 0 0, .bool false, .pointer (some ⟨w.heap.size, 0, none⟩), .pointer (some ⟨w.heap.size + 1, 0, none⟩), S x.1, .bool x.2, .slice la o.length lc, .slice fa l.length fc, .func (.func 73) #[] #[.pointer (some ⟨w.heap.size + 1 + 1 + 1, 0, none⟩), .pointer (some ⟨w.heap.size + 1 + 1, 0, none⟩)], S x.1, .bool x.2, undef, undef, undef, undef, undef, undef, undef, undef, undef, undef, undef], defers := [] })
    (fun x a' _ _ _ _ hs _ _ => hs) ?assign ?body ?done ?stop
  case assign =>
    intro ly pre x W K hI hK
    simp only [encW]
    gi_wp2
    exact hK _ _ (KeepsFrom.refl _ _) (KpF.refl (fun g hg => by obtain ⟨⟨v, h1, h2⟩, -⟩ := hI; rw [outB_box h1] at hg; exact (h2.lt g hg).2)) hI rfl
  case body =>
    rintro ly pre ⟨p, b⟩ a' W hly _ hI rfl hpx
    have HI := Lib.hid hI
    obtain ⟨⟨v1, h1, h2⟩, h3, ⟨h4, h5⟩, h6⟩ := hI
    have HLEN := Lib.hid (show pre.length + 1 ≤ 1000000 by have h7 := hpx.length_le; unfold xsW at h7; rw [List.length_map, List.length_append] at h7; have := qF_len hcnt; simp at h7; omega)
    have hlen := HLEN.out
    obtain ⟨a, c, rfl⟩ : ∃ a c, v1 = .slice a pre.length c := by
      rcases h2.2 with ⟨h, hn⟩ | ⟨g, cap, _, h, _⟩
      · exact ⟨none, 0, by rw [h, hn]⟩
      · exact ⟨_, _, h⟩
    have c1 := h1.cell
    obtain ⟨ab, hab⟩ : ∃ ab, pre.all (·.2) = ab := ⟨_, rfl⟩
    rw [hab] at h3
    have c3 := h3.cell
    have d1 := (h1.alloc (.cells #[S p] 9)).cell
    have d3 := (h3.alloc (.cells #[S p] 9)).cell
    have HAB := Lib.hid hab
    have H1 := Lib.hid h1
    have H2 := Lib.hid h2
    have HOWN := Lib.hid ((own_block (w' := W.drew) h2 (fun g _ => rfl)).alloc (.cells #[S p] 9))
    clear hab h1 h2 h3 h4 h6 hpx b0 b1 b2 b3 hB0 hT hraw
    rw [hS0]
    gi_wp2_with fail
    refine wpIn_region_any (by kernel_rfl) ?_
    change wpAnyIn _ _ _ _ _ _ _ _ _ (World.drew _)
    cases ab with
    | false =>
      (refine any_take (i := 1) (v := ?_) (by kernel_rfl) rfl (by kernel_rfl) (by kernel_rfl) (by kernel_rfl) (fun _ _ _ h => h) ⟨Or.inl ⟨by rfl, ?_⟩, fun _ => rfl⟩ ?_; rotate_left; (intro w9; go_simp; try with_reducible rfl))
      (refine wpAnyIn_ready (rs := [0, 2, 4]) (by kernel_rfl) (by simp) ?_; refine AllReadyIn.cons rfl (fun K hK => ?_) (AllReadyIn.cons rfl (fun K hK => ?_) (AllReadyIn.cons rfl (fun K hK => ?_) AllReadyIn.nil)))
      · (go_simp; refine hK _ _ ?_; clear hK K)
        (refine wpAnyIn_ready (rs := [2, 4]) (by kernel_rfl) (by simp) ?_; refine AllReadyIn.cons rfl (fun K hK => ?_) (AllReadyIn.cons rfl (fun K hK => ?_) AllReadyIn.nil))
        · (go_simp; refine hK _ _ ?_; clear hK K)
          (refine wpAnyIn_ready (rs := [3, 4]) (by kernel_rfl) (by simp) ?_; refine AllReadyIn.cons rfl (fun K hK => ?_) (AllReadyIn.cons rfl (fun K hK => ?_) AllReadyIn.nil))
          · rw [if_pos (by rfl)]
            refine op_append_sep (W.drew.alloc (.cells #[S p] 9)) (.tmp 15) (.tmp 17) 23 rfl (w.heap.size + 4) 9 i0 (.string ⟨#[]⟩) 1 16 Tryz.underlying23 hi hz0 hz1 hz2 rfl (by decide) (.slice a pre.length c) pre.length (pre.map fun x => S x.1) rfl HOWN.out ⟨W.heap.size, 0, none⟩ 1 1 [S p] rfl rfl (new_cell_at rfl _ _) (s_one _) (by unfold maxLen; omega) (by omega) (by rw [World.size_alloc]; show w.heap.size + 4 ≤ W.heap.size + 1; omega) (by decide) ?_
            intro v' w1 hown' hgrow hblk
            obtain ⟨-, hv1, hb1⟩ := roundB HI.out H1.out H2.out hgrow
            obtain ⟨g', cap', rfl⟩ := ownsRow_succ hown'
            have e1 := hv1.cell
            have f1 := hv1.frozen
            have e2 := hb1.cell
            have f2 := hb1.frozen
            rw [HAB.out] at e2
            have HE1 := Lib.hid hown'
            have HE2 := Lib.hid hgrow
            have HE3 := Lib.hid hblk
            clear hown' hgrow hblk hv1 hb1
            refine hK _ _ ?_
            clear hK K
            (refine wpAnyIn_ready (rs := [4]) (by kernel_rfl) (by simp) ?_; refine AllReadyIn.cons rfl (fun K hK => ?_) AllReadyIn.nil)
            (go_simp; refine hK _ _ ?_; clear hK K)
            (refine any_take (i := 5) (v := ?_) (by kernel_rfl) rfl (by kernel_rfl) (by kernel_rfl) (by kernel_rfl) (fun _ _ _ h => h) ⟨Or.inl ⟨by rfl, ?_⟩, fun _ => rfl⟩ ?_; rotate_left; (intro w9; go_simp; try with_reducible rfl))
            (refine any_take (i := 6) (v := undef) (by kernel_rfl) rfl (by kernel_rfl) (by kernel_rfl) (by kernel_rfl) (fun _ _ _ h => h) ⟨Or.inr ⟨by rfl, rfl⟩, fun _ => rfl⟩ ?_)
            (refine any_take (i := 7) (v := ?_) (by kernel_rfl) rfl (by kernel_rfl) (by kernel_rfl) (by kernel_rfl) (fun _ _ _ h => h) ⟨Or.inl ⟨by rfl, ?_⟩, fun _ => rfl⟩ ?_; rotate_left; (intro w9; go_simp; try with_reducible rfl))
            (refine wpAnyIn_ready (rs := [8]) (by kernel_rfl) (by simp) ?_; refine AllReadyIn.cons rfl (fun K hK => ?_) AllReadyIn.nil)
            (go_simp; refine hK _ _ ?_; clear hK K)
            (refine wpAnyIn_ready (rs := [9]) (by kernel_rfl) (by simp) ?_; refine AllReadyIn.cons rfl (fun K hK => ?_) AllReadyIn.nil)
            (go_simp; refine hK _ _ ?_; clear hK K)
            refine wpAnyIn_done (by kernel_rfl) ?_ _
            gi_wp2
            exact roundF HI.out H1.out H2.out HLEN.out (by rw [HAB.out]; rfl) HE1.out HE2.out HE3.out
          · (go_simp; refine hK _ _ ?_; clear hK K)
            (refine wpAnyIn_ready (rs := [3]) (by kernel_rfl) (by simp) ?_; refine AllReadyIn.cons rfl (fun K hK => ?_) AllReadyIn.nil)
            rw [if_pos (by rfl)]
            refine op_append_sep (W.drew.alloc (.cells #[S p] 9)) (.tmp 15) (.tmp 17) 23 rfl (w.heap.size + 4) 9 i0 (.string ⟨#[]⟩) 1 16 Tryz.underlying23 hi hz0 hz1 hz2 rfl (by decide) (.slice a pre.length c) pre.length (pre.map fun x => S x.1) rfl HOWN.out ⟨W.heap.size, 0, none⟩ 1 1 [S p] rfl rfl (new_cell_at rfl _ _) (s_one _) (by unfold maxLen; omega) (by omega) (by rw [World.size_alloc]; show w.heap.size + 4 ≤ W.heap.size + 1; omega) (by decide) ?_
            intro v' w1 hown' hgrow hblk
            obtain ⟨-, hv1, hb1⟩ := roundB HI.out H1.out H2.out hgrow
            obtain ⟨g', cap', rfl⟩ := ownsRow_succ hown'
            have e1 := hv1.cell
            have f1 := hv1.frozen
            have e2 := hb1.cell
            have f2 := hb1.frozen
            rw [HAB.out] at e2
            have HE1 := Lib.hid hown'
            have HE2 := Lib.hid hgrow
            have HE3 := Lib.hid hblk
            clear hown' hgrow hblk hv1 hb1
            refine hK _ _ ?_
            clear hK K
            (refine any_take (i := 5) (v := ?_) (by kernel_rfl) rfl (by kernel_rfl) (by kernel_rfl) (by kernel_rfl) (fun _ _ _ h => h) ⟨Or.inl ⟨by rfl, ?_⟩, fun _ => rfl⟩ ?_; rotate_left; (intro w9; go_simp; try with_reducible rfl))
            (refine any_take (i := 6) (v := undef) (by kernel_rfl) rfl (by kernel_rfl) (by kernel_rfl) (by kernel_rfl) (fun _ _ _ h => h) ⟨Or.inr ⟨by rfl, rfl⟩, fun _ => rfl⟩ ?_)
            (refine any_take (i := 7) (v := ?_) (by kernel_rfl) rfl (by kernel_rfl) (by kernel_rfl) (by kernel_rfl) (fun _ _ _ h => h) ⟨Or.inl ⟨by rfl, ?_⟩, fun _ => rfl⟩ ?_; rotate_left; (intro w9; go_simp; try with_reducible rfl))
            (refine wpAnyIn_ready (rs := [8]) (by kernel_rfl) (by simp) ?_; refine AllReadyIn.cons rfl (fun K hK => ?_) AllReadyIn.nil)
            (go_simp; refine hK _ _ ?_; clear hK K)
            (refine wpAnyIn_ready (rs := [9]) (by kernel_rfl) (by simp) ?_; refine AllReadyIn.cons rfl (fun K hK => ?_) AllReadyIn.nil)
            (go_simp; refine hK _ _ ?_; clear hK K)
            refine wpAnyIn_done (by kernel_rfl) ?_ _
            gi_wp2
            exact roundF HI.out H1.out H2.out HLEN.out (by rw [HAB.out]; rfl) HE1.out HE2.out HE3.out
        · (go_simp; refine hK _ _ ?_; clear hK K)
          (refine wpAnyIn_ready (rs := [2]) (by kernel_rfl) (by simp) ?_; refine AllReadyIn.cons rfl (fun K hK => ?_) AllReadyIn.nil)
          (go_simp; refine hK _ _ ?_; clear hK K)
          (refine wpAnyIn_ready (rs := [3]) (by kernel_rfl) (by simp) ?_; refine AllReadyIn.cons rfl (fun K hK => ?_) AllReadyIn.nil)
          rw [if_pos (by rfl)]
          refine op_append_sep (W.drew.alloc (.cells #[S p] 9)) (.tmp 15) (.tmp 17) 23 rfl (w.heap.size + 4) 9 i0 (.string ⟨#[]⟩) 1 16 Tryz.underlying23 hi hz0 hz1 hz2 rfl (by decide) (.slice a pre.length c) pre.length (pre.map fun x => S x.1) rfl HOWN.out ⟨W.heap.size, 0, none⟩ 1 1 [S p] rfl rfl (new_cell_at rfl _ _) (s_one _) (by unfold maxLen; omega) (by omega) (by rw [World.size_alloc]; show w.heap.size + 4 ≤ W.heap.size + 1; omega) (by decide) ?_
          intro v' w1 hown' hgrow hblk
          obtain ⟨-, hv1, hb1⟩ := roundB HI.out H1.out H2.out hgrow
          obtain ⟨g', cap', rfl⟩ := ownsRow_succ hown'
          have e1 := hv1.cell
          have f1 := hv1.frozen
          have e2 := hb1.cell
          have f2 := hb1.frozen
          rw [HAB.out] at e2
          have HE1 := Lib.hid hown'
          have HE2 := Lib.hid hgrow
          have HE3 := Lib.hid hblk
          clear hown' hgrow hblk hv1 hb1
          refine hK _ _ ?_
          clear hK K
          (refine any_take (i := 5) (v := ?_) (by kernel_rfl) rfl (by kernel_rfl) (by kernel_rfl) (by kernel_rfl) (fun _ _ _ h => h) ⟨Or.inl ⟨by rfl, ?_⟩, fun _ => rfl⟩ ?_; rotate_left; (intro w9; go_simp; try with_reducible rfl))
          (refine any_take (i := 6) (v := undef) (by kernel_rfl) rfl (by kernel_rfl) (by kernel_rfl) (by kernel_rfl) (fun _ _ _ h => h) ⟨Or.inr ⟨by rfl, rfl⟩, fun _ => rfl⟩ ?_)
          (refine any_take (i := 7) (v := ?_) (by kernel_rfl) rfl (by kernel_rfl) (by kernel_rfl) (by kernel_rfl) (fun _ _ _ h => h) ⟨Or.inl ⟨by rfl, ?_⟩, fun _ => rfl⟩ ?_; rotate_left; (intro w9; go_simp; try with_reducible rfl))
          (refine wpAnyIn_ready (rs := [8]) (by kernel_rfl) (by simp) ?_; refine AllReadyIn.cons rfl (fun K hK => ?_) AllReadyIn.nil)
          (go_simp; refine hK _ _ ?_; clear hK K)
          (refine wpAnyIn_ready (rs := [9]) (by kernel_rfl) (by simp) ?_; refine AllReadyIn.cons rfl (fun K hK => ?_) AllReadyIn.nil)
          (go_simp; refine hK _ _ ?_; clear hK K)
          refine wpAnyIn_done (by kernel_rfl) ?_ _
          gi_wp2
          exact roundF HI.out H1.out H2.out HLEN.out (by rw [HAB.out]; rfl) HE1.out HE2.out HE3.out
      · (go_simp; refine hK _ _ ?_; clear hK K)
        (refine wpAnyIn_ready (rs := [0, 4]) (by kernel_rfl) (by simp) ?_; refine AllReadyIn.cons rfl (fun K hK => ?_) (AllReadyIn.cons rfl (fun K hK => ?_) AllReadyIn.nil))
        · (go_simp; refine hK _ _ ?_; clear hK K)
          (refine wpAnyIn_ready (rs := [3, 4]) (by kernel_rfl) (by simp) ?_; refine AllReadyIn.cons rfl (fun K hK => ?_) (AllReadyIn.cons rfl (fun K hK => ?_) AllReadyIn.nil))
          · rw [if_pos (by rfl)]
            refine op_append_sep (W.drew.alloc (.cells #[S p] 9)) (.tmp 15) (.tmp 17) 23 rfl (w.heap.size + 4) 9 i0 (.string ⟨#[]⟩) 1 16 Tryz.underlying23 hi hz0 hz1 hz2 rfl (by decide) (.slice a pre.length c) pre.length (pre.map fun x => S x.1) rfl HOWN.out ⟨W.heap.size, 0, none⟩ 1 1 [S p] rfl rfl (new_cell_at rfl _ _) (s_one _) (by unfold maxLen; omega) (by omega) (by rw [World.size_alloc]; show w.heap.size + 4 ≤ W.heap.size + 1; omega) (by decide) ?_
            intro v' w1 hown' hgrow hblk
            obtain ⟨-, hv1, hb1⟩ := roundB HI.out H1.out H2.out hgrow
            obtain ⟨g', cap', rfl⟩ := ownsRow_succ hown'
            have e1 := hv1.cell
            have f1 := hv1.frozen
            have e2 := hb1.cell
            have f2 := hb1.frozen
            rw [HAB.out] at e2
            have HE1 := Lib.hid hown'
            have HE2 := Lib.hid hgrow
            have HE3 := Lib.hid hblk
            clear hown' hgrow hblk hv1 hb1
            refine hK _ _ ?_
            clear hK K
            (refine wpAnyIn_ready (rs := [4]) (by kernel_rfl) (by simp) ?_; refine AllReadyIn.cons rfl (fun K hK => ?_) AllReadyIn.nil)
            (go_simp; refine hK _ _ ?_; clear hK K)
            (refine any_take (i := 5) (v := ?_) (by kernel_rfl) rfl (by kernel_rfl) (by kernel_rfl) (by kernel_rfl) (fun _ _ _ h => h) ⟨Or.inl ⟨by rfl, ?_⟩, fun _ => rfl⟩ ?_; rotate_left; (intro w9; go_simp; try with_reducible rfl))
            (refine any_take (i := 6) (v := undef) (by kernel_rfl) rfl (by kernel_rfl) (by kernel_rfl) (by kernel_rfl) (fun _ _ _ h => h) ⟨Or.inr ⟨by rfl, rfl⟩, fun _ => rfl⟩ ?_)
            (refine any_take (i := 7) (v := ?_) (by kernel_rfl) rfl (by kernel_rfl) (by kernel_rfl) (by kernel_rfl) (fun _ _ _ h => h) ⟨Or.inl ⟨by rfl, ?_⟩, fun _ => rfl⟩ ?_; rotate_left; (intro w9; go_simp; try with_reducible rfl))
            (refine wpAnyIn_ready (rs := [8]) (by kernel_rfl) (by simp) ?_; refine AllReadyIn.cons rfl (fun K hK => ?_) AllReadyIn.nil)
            (go_simp; refine hK _ _ ?_; clear hK K)
            (refine wpAnyIn_ready (rs := [9]) (by kernel_rfl) (by simp) ?_; refine AllReadyIn.cons rfl (fun K hK => ?_) AllReadyIn.nil)
            (go_simp; refine hK _ _ ?_; clear hK K)
            refine wpAnyIn_done (by kernel_rfl) ?_ _
            gi_wp2
            exact roundF HI.out H1.out H2.out HLEN.out (by rw [HAB.out]; rfl) HE1.out HE2.out HE3.out
          · (go_simp; refine hK _ _ ?_; clear hK K)
            (refine wpAnyIn_ready (rs := [3]) (by kernel_rfl) (by simp) ?_; refine AllReadyIn.cons rfl (fun K hK => ?_) AllReadyIn.nil)
            rw [if_pos (by rfl)]
            refine op_append_sep (W.drew.alloc (.cells #[S p] 9)) (.tmp 15) (.tmp 17) 23 rfl (w.heap.size + 4) 9 i0 (.string ⟨#[]⟩) 1 16 Tryz.underlying23 hi hz0 hz1 hz2 rfl (by decide) (.slice a pre.length c) pre.length (pre.map fun x => S x.1) rfl HOWN.out ⟨W.heap.size, 0, none⟩ 1 1 [S p] rfl rfl (new_cell_at rfl _ _) (s_one _) (by unfold maxLen; omega) (by omega) (by rw [World.size_alloc]; show w.heap.size + 4 ≤ W.heap.size + 1; omega) (by decide) ?_
            intro v' w1 hown' hgrow hblk
            obtain ⟨-, hv1, hb1⟩ := roundB HI.out H1.out H2.out hgrow
            obtain ⟨g', cap', rfl⟩ := ownsRow_succ hown'
            have e1 := hv1.cell
            have f1 := hv1.frozen
            have e2 := hb1.cell
            have f2 := hb1.frozen
            rw [HAB.out] at e2
            have HE1 := Lib.hid hown'
            have HE2 := Lib.hid hgrow
            have HE3 := Lib.hid hblk
            clear hown' hgrow hblk hv1 hb1
            refine hK _ _ ?_
            clear hK K
            (refine any_take (i := 5) (v := ?_) (by kernel_rfl) rfl (by kernel_rfl) (by kernel_rfl) (by kernel_rfl) (fun _ _ _ h => h) ⟨Or.inl ⟨by rfl, ?_⟩, fun _ => rfl⟩ ?_; rotate_left; (intro w9; go_simp; try with_reducible rfl))
            (refine any_take (i := 6) (v := undef) (by kernel_rfl) rfl (by kernel_rfl) (by kernel_rfl) (by kernel_rfl) (fun _ _ _ h => h) ⟨Or.inr ⟨by rfl, rfl⟩, fun _ => rfl⟩ ?_)
            (refine any_take (i := 7) (v := ?_) (by kernel_rfl) rfl (by kernel_rfl) (by kernel_rfl) (by kernel_rfl) (fun _ _ _ h => h) ⟨Or.inl ⟨by rfl, ?_⟩, fun _ => rfl⟩ ?_; rotate_left; (intro w9; go_simp; try with_reducible rfl))
            (refine wpAnyIn_ready (rs := [8]) (by kernel_rfl) (by simp) ?_; refine AllReadyIn.cons rfl (fun K hK => ?_) AllReadyIn.nil)
            (go_simp; refine hK _ _ ?_; clear hK K)
            (refine wpAnyIn_ready (rs := [9]) (by kernel_rfl) (by simp) ?_; refine AllReadyIn.cons rfl (fun K hK => ?_) AllReadyIn.nil)
            (go_simp; refine hK _ _ ?_; clear hK K)
            refine wpAnyIn_done (by kernel_rfl) ?_ _
            gi_wp2
            exact roundF HI.out H1.out H2.out HLEN.out (by rw [HAB.out]; rfl) HE1.out HE2.out HE3.out
        · (go_simp; refine hK _ _ ?_; clear hK K)
          (refine wpAnyIn_ready (rs := [0]) (by kernel_rfl) (by simp) ?_; refine AllReadyIn.cons rfl (fun K hK => ?_) AllReadyIn.nil)
          (go_simp; refine hK _ _ ?_; clear hK K)
          (refine wpAnyIn_ready (rs := [3]) (by kernel_rfl) (by simp) ?_; refine AllReadyIn.cons rfl (fun K hK => ?_) AllReadyIn.nil)
          rw [if_pos (by rfl)]
          refine op_append_sep (W.drew.alloc (.cells #[S p] 9)) (.tmp 15) (.tmp 17) 23 rfl (w.heap.size + 4) 9 i0 (.string ⟨#[]⟩) 1 16 Tryz.underlying23 hi hz0 hz1 hz2 rfl (by decide) (.slice a pre.length c) pre.length (pre.map fun x => S x.1) rfl HOWN.out ⟨W.heap.size, 0, none⟩ 1 1 [S p] rfl rfl (new_cell_at rfl _ _) (s_one _) (by unfold maxLen; omega) (by omega) (by rw [World.size_alloc]; show w.heap.size + 4 ≤ W.heap.size + 1; omega) (by decide) ?_
          intro v' w1 hown' hgrow hblk
          obtain ⟨-, hv1, hb1⟩ := roundB HI.out H1.out H2.out hgrow
          obtain ⟨g', cap', rfl⟩ := ownsRow_succ hown'
          have e1 := hv1.cell
          have f1 := hv1.frozen
          have e2 := hb1.cell
          have f2 := hb1.frozen
          rw [HAB.out] at e2
          have HE1 := Lib.hid hown'
          have HE2 := Lib.hid hgrow
          have HE3 := Lib.hid hblk
          clear hown' hgrow hblk hv1 hb1
          refine hK _ _ ?_
          clear hK K
          (refine any_take (i := 5) (v := ?_) (by kernel_rfl) rfl (by kernel_rfl) (by kernel_rfl) (by kernel_rfl) (fun _ _ _ h => h) ⟨Or.inl ⟨by rfl, ?_⟩, fun _ => rfl⟩ ?_; rotate_left; (intro w9; go_simp; try with_reducible rfl))
          (refine any_take (i := 6) (v := undef) (by kernel_rfl) rfl (by kernel_rfl) (by kernel_rfl) (by kernel_rfl) (fun _ _ _ h => h) ⟨Or.inr ⟨by rfl, rfl⟩, fun _ => rfl⟩ ?_)
          (refine any_take (i := 7) (v := ?_) (by kernel_rfl) rfl (by kernel_rfl) (by kernel_rfl) (by kernel_rfl) (fun _ _ _ h => h) ⟨Or.inl ⟨by rfl, ?_⟩, fun _ => rfl⟩ ?_; rotate_left; (intro w9; go_simp; try with_reducible rfl))
          (refine wpAnyIn_ready (rs := [8]) (by kernel_rfl) (by simp) ?_; refine AllReadyIn.cons rfl (fun K hK => ?_) AllReadyIn.nil)
          (go_simp; refine hK _ _ ?_; clear hK K)
          (refine wpAnyIn_ready (rs := [9]) (by kernel_rfl) (by simp) ?_; refine AllReadyIn.cons rfl (fun K hK => ?_) AllReadyIn.nil)
          (go_simp; refine hK _ _ ?_; clear hK K)
          refine wpAnyIn_done (by kernel_rfl) ?_ _
          gi_wp2
          exact roundF HI.out H1.out H2.out HLEN.out (by rw [HAB.out]; rfl) HE1.out HE2.out HE3.out
      · (go_simp; refine hK _ _ ?_; clear hK K)
        (refine wpAnyIn_ready (rs := [0, 2]) (by kernel_rfl) (by simp) ?_; refine AllReadyIn.cons rfl (fun K hK => ?_) (AllReadyIn.cons rfl (fun K hK => ?_) AllReadyIn.nil))
        · (go_simp; refine hK _ _ ?_; clear hK K)
          (refine wpAnyIn_ready (rs := [2]) (by kernel_rfl) (by simp) ?_; refine AllReadyIn.cons rfl (fun K hK => ?_) AllReadyIn.nil)
          (go_simp; refine hK _ _ ?_; clear hK K)
          (refine wpAnyIn_ready (rs := [3]) (by kernel_rfl) (by simp) ?_; refine AllReadyIn.cons rfl (fun K hK => ?_) AllReadyIn.nil)
          rw [if_pos (by rfl)]
          refine op_append_sep (W.drew.alloc (.cells #[S p] 9)) (.tmp 15) (.tmp 17) 23 rfl (w.heap.size + 4) 9 i0 (.string ⟨#[]⟩) 1 16 Tryz.underlying23 hi hz0 hz1 hz2 rfl (by decide) (.slice a pre.length c) pre.length (pre.map fun x => S x.1) rfl HOWN.out ⟨W.heap.size, 0, none⟩ 1 1 [S p] rfl rfl (new_cell_at rfl _ _) (s_one _) (by unfold maxLen; omega) (by omega) (by rw [World.size_alloc]; show w.heap.size + 4 ≤ W.heap.size + 1; omega) (by decide) ?_
          intro v' w1 hown' hgrow hblk
          obtain ⟨-, hv1, hb1⟩ := roundB HI.out H1.out H2.out hgrow
          obtain ⟨g', cap', rfl⟩ := ownsRow_succ hown'
          have e1 := hv1.cell
          have f1 := hv1.frozen
          have e2 := hb1.cell
          have f2 := hb1.frozen
          rw [HAB.out] at e2
          have HE1 := Lib.hid hown'
          have HE2 := Lib.hid hgrow
          have HE3 := Lib.hid hblk
          clear hown' hgrow hblk hv1 hb1
          refine hK _ _ ?_
          clear hK K
          (refine any_take (i := 5) (v := ?_) (by kernel_rfl) rfl (by kernel_rfl) (by kernel_rfl) (by kernel_rfl) (fun _ _ _ h => h) ⟨Or.inl ⟨by rfl, ?_⟩, fun _ => rfl⟩ ?_; rotate_left; (intro w9; go_simp; try with_reducible rfl))
          (refine any_take (i := 6) (v := undef) (by kernel_rfl) rfl (by kernel_rfl) (by kernel_rfl) (by kernel_rfl) (fun _ _ _ h => h) ⟨Or.inr ⟨by rfl, rfl⟩, fun _ => rfl⟩ ?_)
          (refine any_take (i := 7) (v := ?_) (by kernel_rfl) rfl (by kernel_rfl) (by kernel_rfl) (by kernel_rfl) (fun _ _ _ h => h) ⟨Or.inl ⟨by rfl, ?_⟩, fun _ => rfl⟩ ?_; rotate_left; (intro w9; go_simp; try with_reducible rfl))
          (refine wpAnyIn_ready (rs := [8]) (by kernel_rfl) (by simp) ?_; refine AllReadyIn.cons rfl (fun K hK => ?_) AllReadyIn.nil)
          (go_simp; refine hK _ _ ?_; clear hK K)
          (refine wpAnyIn_ready (rs := [9]) (by kernel_rfl) (by simp) ?_; refine AllReadyIn.cons rfl (fun K hK => ?_) AllReadyIn.nil)
          (go_simp; refine hK _ _ ?_; clear hK K)
          refine wpAnyIn_done (by kernel_rfl) ?_ _
          gi_wp2
          exact roundF HI.out H1.out H2.out HLEN.out (by rw [HAB.out]; rfl) HE1.out HE2.out HE3.out
        · (go_simp; refine hK _ _ ?_; clear hK K)
          (refine wpAnyIn_ready (rs := [0]) (by kernel_rfl) (by simp) ?_; refine AllReadyIn.cons rfl (fun K hK => ?_) AllReadyIn.nil)
          (go_simp; refine hK _ _ ?_; clear hK K)
          (refine wpAnyIn_ready (rs := [3]) (by kernel_rfl) (by simp) ?_; refine AllReadyIn.cons rfl (fun K hK => ?_) AllReadyIn.nil)
          rw [if_pos (by rfl)]
          refine op_append_sep (W.drew.alloc (.cells #[S p] 9)) (.tmp 15) (.tmp 17) 23 rfl (w.heap.size + 4) 9 i0 (.string ⟨#[]⟩) 1 16 Tryz.underlying23 hi hz0 hz1 hz2 rfl (by decide) (.slice a pre.length c) pre.length (pre.map fun x => S x.1) rfl HOWN.out ⟨W.heap.size, 0, none⟩ 1 1 [S p] rfl rfl (new_cell_at rfl _ _) (s_one _) (by unfold maxLen; omega) (by omega) (by rw [World.size_alloc]; show w.heap.size + 4 ≤ W.heap.size + 1; omega) (by decide) ?_
          intro v' w1 hown' hgrow hblk
          obtain ⟨-, hv1, hb1⟩ := roundB HI.out H1.out H2.out hgrow
          obtain ⟨g', cap', rfl⟩ := ownsRow_succ hown'
          have e1 := hv1.cell
          have f1 := hv1.frozen
          have e2 := hb1.cell
          have f2 := hb1.frozen
          rw [HAB.out] at e2
          have HE1 := Lib.hid hown'
          have HE2 := Lib.hid hgrow
          have HE3 := Lib.hid hblk
          clear hown' hgrow hblk hv1 hb1
          refine hK _ _ ?_
          clear hK K
          (refine any_take (i := 5) (v := ?_) (by kernel_rfl) rfl (by kernel_rfl) (by kernel_rfl) (by kernel_rfl) (fun _ _ _ h => h) ⟨Or.inl ⟨by rfl, ?_⟩, fun _ => rfl⟩ ?_; rotate_left; (intro w9; go_simp; try with_reducible rfl))
          (refine any_take (i := 6) (v := undef) (by kernel_rfl) rfl (by kernel_rfl) (by kernel_rfl) (by kernel_rfl) (fun _ _ _ h => h) ⟨Or.inr ⟨by rfl, rfl⟩, fun _ => rfl⟩ ?_)
          (refine any_take (i := 7) (v := ?_) (by kernel_rfl) rfl (by kernel_rfl) (by kernel_rfl) (by kernel_rfl) (fun _ _ _ h => h) ⟨Or.inl ⟨by rfl, ?_⟩, fun _ => rfl⟩ ?_; rotate_left; (intro w9; go_simp; try with_reducible rfl))
          (refine wpAnyIn_ready (rs := [8]) (by kernel_rfl) (by simp) ?_; refine AllReadyIn.cons rfl (fun K hK => ?_) AllReadyIn.nil)
          (go_simp; refine hK _ _ ?_; clear hK K)
          (refine wpAnyIn_ready (rs := [9]) (by kernel_rfl) (by simp) ?_; refine AllReadyIn.cons rfl (fun K hK => ?_) AllReadyIn.nil)
          (go_simp; refine hK _ _ ?_; clear hK K)
          refine wpAnyIn_done (by kernel_rfl) ?_ _
          gi_wp2
          exact roundF HI.out H1.out H2.out HLEN.out (by rw [HAB.out]; rfl) HE1.out HE2.out HE3.out
    | true =>
      (refine any_take (i := 1) (v := ?_) (by kernel_rfl) rfl (by kernel_rfl) (by kernel_rfl) (by kernel_rfl) (fun _ _ _ h => h) ⟨Or.inl ⟨by rfl, ?_⟩, fun _ => rfl⟩ ?_; rotate_left; (intro w9; go_simp; try with_reducible rfl))
      (refine wpAnyIn_ready (rs := [0, 2, 4]) (by kernel_rfl) (by simp) ?_; refine AllReadyIn.cons rfl (fun K hK => ?_) (AllReadyIn.cons rfl (fun K hK => ?_) (AllReadyIn.cons rfl (fun K hK => ?_) AllReadyIn.nil)))
      · (go_simp; refine hK _ _ ?_; clear hK K)
        (refine wpAnyIn_ready (rs := [2, 4]) (by kernel_rfl) (by simp) ?_; refine AllReadyIn.cons rfl (fun K hK => ?_) (AllReadyIn.cons rfl (fun K hK => ?_) AllReadyIn.nil))
        · (go_simp; refine hK _ _ ?_; clear hK K)
          (refine wpAnyIn_ready (rs := [3, 4]) (by kernel_rfl) (by simp) ?_; refine AllReadyIn.cons rfl (fun K hK => ?_) (AllReadyIn.cons rfl (fun K hK => ?_) AllReadyIn.nil))
          · rw [if_pos (by rfl)]
            refine op_append_sep (W.drew.alloc (.cells #[S p] 9)) (.tmp 15) (.tmp 17) 23 rfl (w.heap.size + 4) 9 i0 (.string ⟨#[]⟩) 1 16 Tryz.underlying23 hi hz0 hz1 hz2 rfl (by decide) (.slice a pre.length c) pre.length (pre.map fun x => S x.1) rfl HOWN.out ⟨W.heap.size, 0, none⟩ 1 1 [S p] rfl rfl (new_cell_at rfl _ _) (s_one _) (by unfold maxLen; omega) (by omega) (by rw [World.size_alloc]; show w.heap.size + 4 ≤ W.heap.size + 1; omega) (by decide) ?_
            intro v' w1 hown' hgrow hblk
            obtain ⟨-, hv1, hb1⟩ := roundB HI.out H1.out H2.out hgrow
            obtain ⟨g', cap', rfl⟩ := ownsRow_succ hown'
            have e1 := hv1.cell
            have f1 := hv1.frozen
            have e2 := hb1.cell
            have f2 := hb1.frozen
            rw [HAB.out] at e2
            have HE1 := Lib.hid hown'
            have HE2 := Lib.hid hgrow
            have HE3 := Lib.hid hblk
            clear hown' hgrow hblk hv1 hb1
            refine hK _ _ ?_
            clear hK K
            (refine wpAnyIn_ready (rs := [4]) (by kernel_rfl) (by simp) ?_; refine AllReadyIn.cons rfl (fun K hK => ?_) AllReadyIn.nil)
            (go_simp; refine hK _ _ ?_; clear hK K)
            (refine any_take (i := 5) (v := ?_) (by kernel_rfl) rfl (by kernel_rfl) (by kernel_rfl) (by kernel_rfl) (fun _ _ _ h => h) ⟨Or.inl ⟨by rfl, ?_⟩, fun _ => rfl⟩ ?_; rotate_left; (intro w9; go_simp; try with_reducible rfl))
            (refine any_take (i := 6) (v := ?_) (by kernel_rfl) rfl (by kernel_rfl) (by kernel_rfl) (by kernel_rfl) (fun _ _ _ h => h) ⟨Or.inl ⟨by rfl, ?_⟩, fun _ => rfl⟩ ?_; rotate_left; (intro w9; go_simp; try with_reducible rfl))
            (refine any_take (i := 7) (v := ?_) (by kernel_rfl) rfl (by kernel_rfl) (by kernel_rfl) (by kernel_rfl) (fun _ _ _ h => h) ⟨Or.inl ⟨by rfl, ?_⟩, fun _ => rfl⟩ ?_; rotate_left; (intro w9; go_simp; try with_reducible rfl))
            (refine wpAnyIn_ready (rs := [8]) (by kernel_rfl) (by simp) ?_; refine AllReadyIn.cons rfl (fun K hK => ?_) AllReadyIn.nil)
            (go_simp; refine hK _ _ ?_; clear hK K)
            (refine wpAnyIn_ready (rs := [9]) (by kernel_rfl) (by simp) ?_; refine AllReadyIn.cons rfl (fun K hK => ?_) AllReadyIn.nil)
            (go_simp; refine hK _ _ ?_; clear hK K)
            refine wpAnyIn_done (by kernel_rfl) ?_ _
            gi_wp2
            exact roundF HI.out H1.out H2.out HLEN.out (by rw [HAB.out]; rfl) HE1.out HE2.out HE3.out
          · (go_simp; refine hK _ _ ?_; clear hK K)
            (refine wpAnyIn_ready (rs := [3]) (by kernel_rfl) (by simp) ?_; refine AllReadyIn.cons rfl (fun K hK => ?_) AllReadyIn.nil)
            rw [if_pos (by rfl)]
            refine op_append_sep (W.drew.alloc (.cells #[S p] 9)) (.tmp 15) (.tmp 17) 23 rfl (w.heap.size + 4) 9 i0 (.string ⟨#[]⟩) 1 16 Tryz.underlying23 hi hz0 hz1 hz2 rfl (by decide) (.slice a pre.length c) pre.length (pre.map fun x => S x.1) rfl HOWN.out ⟨W.heap.size, 0, none⟩ 1 1 [S p] rfl rfl (new_cell_at rfl _ _) (s_one _) (by unfold maxLen; omega) (by omega) (by rw [World.size_alloc]; show w.heap.size + 4 ≤ W.heap.size + 1; omega) (by decide) ?_
            intro v' w1 hown' hgrow hblk
            obtain ⟨-, hv1, hb1⟩ := roundB HI.out H1.out H2.out hgrow
            obtain ⟨g', cap', rfl⟩ := ownsRow_succ hown'
            have e1 := hv1.cell
            have f1 := hv1.frozen
            have e2 := hb1.cell
            have f2 := hb1.frozen
            rw [HAB.out] at e2
            have HE1 := Lib.hid hown'
            have HE2 := Lib.hid hgrow
            have HE3 := Lib.hid hblk
            clear hown' hgrow hblk hv1 hb1
            refine hK _ _ ?_
            clear hK K
            (refine any_take (i := 5) (v := ?_) (by kernel_rfl) rfl (by kernel_rfl) (by kernel_rfl) (by kernel_rfl) (fun _ _ _ h => h) ⟨Or.inl ⟨by rfl, ?_⟩, fun _ => rfl⟩ ?_; rotate_left; (intro w9; go_simp; try with_reducible rfl))
            (refine any_take (i := 6) (v := ?_) (by kernel_rfl) rfl (by kernel_rfl) (by kernel_rfl) (by kernel_rfl) (fun _ _ _ h => h) ⟨Or.inl ⟨by rfl, ?_⟩, fun _ => rfl⟩ ?_; rotate_left; (intro w9; go_simp; try with_reducible rfl))
            (refine any_take (i := 7) (v := ?_) (by kernel_rfl) rfl (by kernel_rfl) (by kernel_rfl) (by kernel_rfl) (fun _ _ _ h => h) ⟨Or.inl ⟨by rfl, ?_⟩, fun _ => rfl⟩ ?_; rotate_left; (intro w9; go_simp; try with_reducible rfl))
            (refine wpAnyIn_ready (rs := [8]) (by kernel_rfl) (by simp) ?_; refine AllReadyIn.cons rfl (fun K hK => ?_) AllReadyIn.nil)
            (go_simp; refine hK _ _ ?_; clear hK K)
            (refine wpAnyIn_ready (rs := [9]) (by kernel_rfl) (by simp) ?_; refine AllReadyIn.cons rfl (fun K hK => ?_) AllReadyIn.nil)
            (go_simp; refine hK _ _ ?_; clear hK K)
            refine wpAnyIn_done (by kernel_rfl) ?_ _
            gi_wp2
            exact roundF HI.out H1.out H2.out HLEN.out (by rw [HAB.out]; rfl) HE1.out HE2.out HE3.out
        · (go_simp; refine hK _ _ ?_; clear hK K)
          (refine wpAnyIn_ready (rs := [2]) (by kernel_rfl) (by simp) ?_; refine AllReadyIn.cons rfl (fun K hK => ?_) AllReadyIn.nil)
          (go_simp; refine hK _ _ ?_; clear hK K)
          (refine wpAnyIn_ready (rs := [3]) (by kernel_rfl) (by simp) ?_; refine AllReadyIn.cons rfl (fun K hK => ?_) AllReadyIn.nil)
          rw [if_pos (by rfl)]
          refine op_append_sep (W.drew.alloc (.cells #[S p] 9)) (.tmp 15) (.tmp 17) 23 rfl (w.heap.size + 4) 9 i0 (.string ⟨#[]⟩) 1 16 Tryz.underlying23 hi hz0 hz1 hz2 rfl (by decide) (.slice a pre.length c) pre.length (pre.map fun x => S x.1) rfl HOWN.out ⟨W.heap.size, 0, none⟩ 1 1 [S p] rfl rfl (new_cell_at rfl _ _) (s_one _) (by unfold maxLen; omega) (by omega) (by rw [World.size_alloc]; show w.heap.size + 4 ≤ W.heap.size + 1; omega) (by decide) ?_
          intro v' w1 hown' hgrow hblk
          obtain ⟨-, hv1, hb1⟩ := roundB HI.out H1.out H2.out hgrow
          obtain ⟨g', cap', rfl⟩ := ownsRow_succ hown'
          have e1 := hv1.cell
          have f1 := hv1.frozen
          have e2 := hb1.cell
          have f2 := hb1.frozen
          rw [HAB.out] at e2
          have HE1 := Lib.hid hown'
          have HE2 := Lib.hid hgrow
          have HE3 := Lib.hid hblk
          clear hown' hgrow hblk hv1 hb1
          refine hK _ _ ?_
          clear hK K
          (refine any_take (i := 5) (v := ?_) (by kernel_rfl) rfl (by kernel_rfl) (by kernel_rfl) (by kernel_rfl) (fun _ _ _ h => h) ⟨Or.inl ⟨by rfl, ?_⟩, fun _ => rfl⟩ ?_; rotate_left; (intro w9; go_simp; try with_reducible rfl))
          (refine any_take (i := 6) (v := ?_) (by kernel_rfl) rfl (by kernel_rfl) (by kernel_rfl) (by kernel_rfl) (fun _ _ _ h => h) ⟨Or.inl ⟨by rfl, ?_⟩, fun _ => rfl⟩ ?_; rotate_left; (intro w9; go_simp; try with_reducible rfl))
          (refine any_take (i := 7) (v := ?_) (by kernel_rfl) rfl (by kernel_rfl) (by kernel_rfl) (by kernel_rfl) (fun _ _ _ h => h) ⟨Or.inl ⟨by rfl, ?_⟩, fun _ => rfl⟩ ?_; rotate_left; (intro w9; go_simp; try with_reducible rfl))
          (refine wpAnyIn_ready (rs := [8]) (by kernel_rfl) (by simp) ?_; refine AllReadyIn.cons rfl (fun K hK => ?_) AllReadyIn.nil)
          (go_simp; refine hK _ _ ?_; clear hK K)
          (refine wpAnyIn_ready (rs := [9]) (by kernel_rfl) (by simp) ?_; refine AllReadyIn.cons rfl (fun K hK => ?_) AllReadyIn.nil)
          (go_simp; refine hK _ _ ?_; clear hK K)
          refine wpAnyIn_done (by kernel_rfl) ?_ _
          gi_wp2
          exact roundF HI.out H1.out H2.out HLEN.out (by rw [HAB.out]; rfl) HE1.out HE2.out HE3.out
      · (go_simp; refine hK _ _ ?_; clear hK K)
        (refine wpAnyIn_ready (rs := [0, 4]) (by kernel_rfl) (by simp) ?_; refine AllReadyIn.cons rfl (fun K hK => ?_) (AllReadyIn.cons rfl (fun K hK => ?_) AllReadyIn.nil))
        · (go_simp; refine hK _ _ ?_; clear hK K)
          (refine wpAnyIn_ready (rs := [3, 4]) (by kernel_rfl) (by simp) ?_; refine AllReadyIn.cons rfl (fun K hK => ?_) (AllReadyIn.cons rfl (fun K hK => ?_) AllReadyIn.nil))
          · rw [if_pos (by rfl)]
            refine op_append_sep (W.drew.alloc (.cells #[S p] 9)) (.tmp 15) (.tmp 17) 23 rfl (w.heap.size + 4) 9 i0 (.string ⟨#[]⟩) 1 16 Tryz.underlying23 hi hz0 hz1 hz2 rfl (by decide) (.slice a pre.length c) pre.length (pre.map fun x => S x.1) rfl HOWN.out ⟨W.heap.size, 0, none⟩ 1 1 [S p] rfl rfl (new_cell_at rfl _ _) (s_one _) (by unfold maxLen; omega) (by omega) (by rw [World.size_alloc]; show w.heap.size + 4 ≤ W.heap.size + 1; omega) (by decide) ?_
            intro v' w1 hown' hgrow hblk
            obtain ⟨-, hv1, hb1⟩ := roundB HI.out H1.out H2.out hgrow
            obtain ⟨g', cap', rfl⟩ := ownsRow_succ hown'
            have e1 := hv1.cell
            have f1 := hv1.frozen
            have e2 := hb1.cell
            have f2 := hb1.frozen
            rw [HAB.out] at e2
            have HE1 := Lib.hid hown'
            have HE2 := Lib.hid hgrow
            have HE3 := Lib.hid hblk
            clear hown' hgrow hblk hv1 hb1
            refine hK _ _ ?_
            clear hK K
            (refine wpAnyIn_ready (rs := [4]) (by kernel_rfl) (by simp) ?_; refine AllReadyIn.cons rfl (fun K hK => ?_) AllReadyIn.nil)
            (go_simp; refine hK _ _ ?_; clear hK K)
            (refine any_take (i := 5) (v := ?_) (by kernel_rfl) rfl (by kernel_rfl) (by kernel_rfl) (by kernel_rfl) (fun _ _ _ h => h) ⟨Or.inl ⟨by rfl, ?_⟩, fun _ => rfl⟩ ?_; rotate_left; (intro w9; go_simp; try with_reducible rfl))
            (refine any_take (i := 6) (v := ?_) (by kernel_rfl) rfl (by kernel_rfl) (by kernel_rfl) (by kernel_rfl) (fun _ _ _ h => h) ⟨Or.inl ⟨by rfl, ?_⟩, fun _ => rfl⟩ ?_; rotate_left; (intro w9; go_simp; try with_reducible rfl))
            (refine any_take (i := 7) (v := ?_) (by kernel_rfl) rfl (by kernel_rfl) (by kernel_rfl) (by kernel_rfl) (fun _ _ _ h => h) ⟨Or.inl ⟨by rfl, ?_⟩, fun _ => rfl⟩ ?_; rotate_left; (intro w9; go_simp; try with_reducible rfl))
            (refine wpAnyIn_ready (rs := [8]) (by kernel_rfl) (by simp) ?_; refine AllReadyIn.cons rfl (fun K hK => ?_) AllReadyIn.nil)
            (go_simp; refine hK _ _ ?_; clear hK K)
            (refine wpAnyIn_ready (rs := [9]) (by kernel_rfl) (by simp) ?_; refine AllReadyIn.cons rfl (fun K hK => ?_) AllReadyIn.nil)
            (go_simp; refine hK _ _ ?_; clear hK K)
            refine wpAnyIn_done (by kernel_rfl) ?_ _
            gi_wp2
            exact roundF HI.out H1.out H2.out HLEN.out (by rw [HAB.out]; rfl) HE1.out HE2.out HE3.out
          · (go_simp; refine hK _ _ ?_; clear hK K)
            (refine wpAnyIn_ready (rs := [3]) (by kernel_rfl) (by simp) ?_; refine AllReadyIn.cons rfl (fun K hK => ?_) AllReadyIn.nil)
            rw [if_pos (by rfl)]
            refine op_append_sep (W.drew.alloc (.cells #[S p] 9)) (.tmp 15) (.tmp 17) 23 rfl (w.heap.size + 4) 9 i0 (.string ⟨#[]⟩) 1 16 Tryz.underlying23 hi hz0 hz1 hz2 rfl (by decide) (.slice a pre.length c) pre.length (pre.map fun x => S x.1) rfl HOWN.out ⟨W.heap.size, 0, none⟩ 1 1 [S p] rfl rfl (new_cell_at rfl _ _) (s_one _) (by unfold maxLen; omega) (by omega) (by rw [World.size_alloc]; show w.heap.size + 4 ≤ W.heap.size + 1; omega) (by decide) ?_
            intro v' w1 hown' hgrow hblk
            obtain ⟨-, hv1, hb1⟩ := roundB HI.out H1.out H2.out hgrow
            obtain ⟨g', cap', rfl⟩ := ownsRow_succ hown'
            have e1 := hv1.cell
            have f1 := hv1.frozen
            have e2 := hb1.cell
            have f2 := hb1.frozen
            rw [HAB.out] at e2
            have HE1 := Lib.hid hown'
            have HE2 := Lib.hid hgrow
            have HE3 := Lib.hid hblk
            clear hown' hgrow hblk hv1 hb1
            refine hK _ _ ?_
            clear hK K
            (refine any_take (i := 5) (v := ?_) (by kernel_rfl) rfl (by kernel_rfl) (by kernel_rfl) (by kernel_rfl) (fun _ _ _ h => h) ⟨Or.inl ⟨by rfl, ?_⟩, fun _ => rfl⟩ ?_; rotate_left; (intro w9; go_simp; try with_reducible rfl))
            (refine any_take (i := 6) (v := ?_) (by kernel_rfl) rfl (by kernel_rfl) (by kernel_rfl) (by kernel_rfl) (fun _ _ _ h => h) ⟨Or.inl ⟨by rfl, ?_⟩, fun _ => rfl⟩ ?_; rotate_left; (intro w9; go_simp; try with_reducible rfl))
            (refine any_take (i := 7) (v := ?_) (by kernel_rfl) rfl (by kernel_rfl) (by kernel_rfl) (by kernel_rfl) (fun _ _ _ h => h) ⟨Or.inl ⟨by rfl, ?_⟩, fun _ => rfl⟩ ?_; rotate_left; (intro w9; go_simp; try with_reducible rfl))
            (refine wpAnyIn_ready (rs := [8]) (by kernel_rfl) (by simp) ?_; refine AllReadyIn.cons rfl (fun K hK => ?_) AllReadyIn.nil)
            (go_simp; refine hK _ _ ?_; clear hK K)
            (refine wpAnyIn_ready (rs := [9]) (by kernel_rfl) (by simp) ?_; refine AllReadyIn.cons rfl (fun K hK => ?_) AllReadyIn.nil)
            (go_simp; refine hK _ _ ?_; clear hK K)
            refine wpAnyIn_done (by kernel_rfl) ?_ _
            gi_wp2
            exact roundF HI.out H1.out H2.out HLEN.out (by rw [HAB.out]; rfl) HE1.out HE2.out HE3.out
        · (go_simp; refine hK _ _ ?_; clear hK K)
          (refine wpAnyIn_ready (rs := [0]) (by kernel_rfl) (by simp) ?_; refine AllReadyIn.cons rfl (fun K hK => ?_) AllReadyIn.nil)
          (go_simp; refine hK _ _ ?_; clear hK K)
          (refine wpAnyIn_ready (rs := [3]) (by kernel_rfl) (by simp) ?_; refine AllReadyIn.cons rfl (fun K hK => ?_) AllReadyIn.nil)
          rw [if_pos (by rfl)]
          refine op_append_sep (W.drew.alloc (.cells #[S p] 9)) (.tmp 15) (.tmp 17) 23 rfl (w.heap.size + 4) 9 i0 (.string ⟨#[]⟩) 1 16 Tryz.underlying23 hi hz0 hz1 hz2 rfl (by decide) (.slice a pre.length c) pre.length (pre.map fun x => S x.1) rfl HOWN.out ⟨W.heap.size, 0, none⟩ 1 1 [S p] rfl rfl (new_cell_at rfl _ _) (s_one _) (by unfold maxLen; omega) (by omega) (by rw [World.size_alloc]; show w.heap.size + 4 ≤ W.heap.size + 1; omega) (by decide) ?_
          intro v' w1 hown' hgrow hblk
          obtain ⟨-, hv1, hb1⟩ := roundB HI.out H1.out H2.out hgrow
          obtain ⟨g', cap', rfl⟩ := ownsRow_succ hown'
          have e1 := hv1.cell
          have f1 := hv1.frozen
          have e2 := hb1.cell
          have f2 := hb1.frozen
          rw [HAB.out] at e2
          have HE1 := Lib.hid hown'
          have HE2 := Lib.hid hgrow
          have HE3 := Lib.hid hblk
          clear hown' hgrow hblk hv1 hb1
          refine hK _ _ ?_
          clear hK K
          (refine any_take (i := 5) (v := ?_) (by kernel_rfl) rfl (by kernel_rfl) (by kernel_rfl) (by kernel_rfl) (fun _ _ _ h => h) ⟨Or.inl ⟨by rfl, ?_⟩, fun _ => rfl⟩ ?_; rotate_left; (intro w9; go_simp; try with_reducible rfl))
          (refine any_take (i := 6) (v := ?_) (by kernel_rfl) rfl (by kernel_rfl) (by kernel_rfl) (by kernel_rfl) (fun _ _ _ h => h) ⟨Or.inl ⟨by rfl, ?_⟩, fun _ => rfl⟩ ?_; rotate_left; (intro w9; go_simp; try with_reducible rfl))
          (refine any_take (i := 7) (v := ?_) (by kernel_rfl) rfl (by kernel_rfl) (by kernel_rfl) (by kernel_rfl) (fun _ _ _ h => h) ⟨Or.inl ⟨by rfl, ?_⟩, fun _ => rfl⟩ ?_; rotate_left; (intro w9; go_simp; try with_reducible rfl))
          (refine wpAnyIn_ready (rs := [8]) (by kernel_rfl) (by simp) ?_; refine AllReadyIn.cons rfl (fun K hK => ?_) AllReadyIn.nil)
          (go_simp; refine hK _ _ ?_; clear hK K)
          (refine wpAnyIn_ready (rs := [9]) (by kernel_rfl) (by simp) ?_; refine AllReadyIn.cons rfl (fun K hK => ?_) AllReadyIn.nil)
          (go_simp; refine hK _ _ ?_; clear hK K)
          refine wpAnyIn_done (by kernel_rfl) ?_ _
          gi_wp2
          exact roundF HI.out H1.out H2.out HLEN.out (by rw [HAB.out]; rfl) HE1.out HE2.out HE3.out
      · (go_simp; refine hK _ _ ?_; clear hK K)
        (refine wpAnyIn_ready (rs := [0, 2]) (by kernel_rfl) (by simp) ?_; refine AllReadyIn.cons rfl (fun K hK => ?_) (AllReadyIn.cons rfl (fun K hK => ?_) AllReadyIn.nil))
        · (go_simp; refine hK _ _ ?_; clear hK K)
          (refine wpAnyIn_ready (rs := [2]) (by kernel_rfl) (by simp) ?_; refine AllReadyIn.cons rfl (fun K hK => ?_) AllReadyIn.nil)
          (go_simp; refine hK _ _ ?_; clear hK K)
          (refine wpAnyIn_ready (rs := [3]) (by kernel_rfl) (by simp) ?_; refine AllReadyIn.cons rfl (fun K hK => ?_) AllReadyIn.nil)
          rw [if_pos (by rfl)]
          refine op_append_sep (W.drew.alloc (.cells #[S p] 9)) (.tmp 15) (.tmp 17) 23 rfl (w.heap.size + 4) 9 i0 (.string ⟨#[]⟩) 1 16 Tryz.underlying23 hi hz0 hz1 hz2 rfl (by decide) (.slice a pre.length c) pre.length (pre.map fun x => S x.1) rfl HOWN.out ⟨W.heap.size, 0, none⟩ 1 1 [S p] rfl rfl (new_cell_at rfl _ _) (s_one _) (by unfold maxLen; omega) (by omega) (by rw [World.size_alloc]; show w.heap.size + 4 ≤ W.heap.size + 1; omega) (by decide) ?_
          intro v' w1 hown' hgrow hblk
          obtain ⟨-, hv1, hb1⟩ := roundB HI.out H1.out H2.out hgrow
          obtain ⟨g', cap', rfl⟩ := ownsRow_succ hown'
          have e1 := hv1.cell
          have f1 := hv1.frozen
          have e2 := hb1.cell
          have f2 := hb1.frozen
          rw [HAB.out] at e2
          have HE1 := Lib.hid hown'
          have HE2 := Lib.hid hgrow
          have HE3 := Lib.hid hblk
          clear hown' hgrow hblk hv1 hb1
          refine hK _ _ ?_
          clear hK K
          (refine any_take (i := 5) (v := ?_) (by kernel_rfl) rfl (by kernel_rfl) (by kernel_rfl) (by kernel_rfl) (fun _ _ _ h => h) ⟨Or.inl ⟨by rfl, ?_⟩, fun _ => rfl⟩ ?_; rotate_left; (intro w9; go_simp; try with_reducible rfl))
          (refine any_take (i := 6) (v := ?_) (by kernel_rfl) rfl (by kernel_rfl) (by kernel_rfl) (by kernel_rfl) (fun _ _ _ h => h) ⟨Or.inl ⟨by rfl, ?_⟩, fun _ => rfl⟩ ?_; rotate_left; (intro w9; go_simp; try with_reducible rfl))
          (refine any_take (i := 7) (v := ?_) (by kernel_rfl) rfl (by kernel_rfl) (by kernel_rfl) (by kernel_rfl) (fun _ _ _ h => h) ⟨Or.inl ⟨by rfl, ?_⟩, fun _ => rfl⟩ ?_; rotate_left; (intro w9; go_simp; try with_reducible rfl))
          (refine wpAnyIn_ready (rs := [8]) (by kernel_rfl) (by simp) ?_; refine AllReadyIn.cons rfl (fun K hK => ?_) AllReadyIn.nil)
          (go_simp; refine hK _ _ ?_; clear hK K)
          (refine wpAnyIn_ready (rs := [9]) (by kernel_rfl) (by simp) ?_; refine AllReadyIn.cons rfl (fun K hK => ?_) AllReadyIn.nil)
          (go_simp; refine hK _ _ ?_; clear hK K)
          refine wpAnyIn_done (by kernel_rfl) ?_ _
          gi_wp2
          exact roundF HI.out H1.out H2.out HLEN.out (by rw [HAB.out]; rfl) HE1.out HE2.out HE3.out
        · (go_simp; refine hK _ _ ?_; clear hK K)
          (refine wpAnyIn_ready (rs := [0]) (by kernel_rfl) (by simp) ?_; refine AllReadyIn.cons rfl (fun K hK => ?_) AllReadyIn.nil)
          (go_simp; refine hK _ _ ?_; clear hK K)
          (refine wpAnyIn_ready (rs := [3]) (by kernel_rfl) (by simp) ?_; refine AllReadyIn.cons rfl (fun K hK => ?_) AllReadyIn.nil)
          rw [if_pos (by rfl)]
          refine op_append_sep (W.drew.alloc (.cells #[S p] 9)) (.tmp 15) (.tmp 17) 23 rfl (w.heap.size + 4) 9 i0 (.string ⟨#[]⟩) 1 16 Tryz.underlying23 hi hz0 hz1 hz2 rfl (by decide) (.slice a pre.length c) pre.length (pre.map fun x => S x.1) rfl HOWN.out ⟨W.heap.size, 0, none⟩ 1 1 [S p] rfl rfl (new_cell_at rfl _ _) (s_one _) (by unfold maxLen; omega) (by omega) (by rw [World.size_alloc]; show w.heap.size + 4 ≤ W.heap.size + 1; omega) (by decide) ?_
          intro v' w1 hown' hgrow hblk
          obtain ⟨-, hv1, hb1⟩ := roundB HI.out H1.out H2.out hgrow
          obtain ⟨g', cap', rfl⟩ := ownsRow_succ hown'
          have e1 := hv1.cell
          have f1 := hv1.frozen
          have e2 := hb1.cell
          have f2 := hb1.frozen
          rw [HAB.out] at e2
          have HE1 := Lib.hid hown'
          have HE2 := Lib.hid hgrow
          have HE3 := Lib.hid hblk
          clear hown' hgrow hblk hv1 hb1
          refine hK _ _ ?_
          clear hK K
          (refine any_take (i := 5) (v := ?_) (by kernel_rfl) rfl (by kernel_rfl) (by kernel_rfl) (by kernel_rfl) (fun _ _ _ h => h) ⟨Or.inl ⟨by rfl, ?_⟩, fun _ => rfl⟩ ?_; rotate_left; (intro w9; go_simp; try with_reducible rfl))
          (refine any_take (i := 6) (v := ?_) (by kernel_rfl) rfl (by kernel_rfl) (by kernel_rfl) (by kernel_rfl) (fun _ _ _ h => h) ⟨Or.inl ⟨by rfl, ?_⟩, fun _ => rfl⟩ ?_; rotate_left; (intro w9; go_simp; try with_reducible rfl))
          (refine any_take (i := 7) (v := ?_) (by kernel_rfl) rfl (by kernel_rfl) (by kernel_rfl) (by kernel_rfl) (fun _ _ _ h => h) ⟨Or.inl ⟨by rfl, ?_⟩, fun _ => rfl⟩ ?_; rotate_left; (intro w9; go_simp; try with_reducible rfl))
          (refine wpAnyIn_ready (rs := [8]) (by kernel_rfl) (by simp) ?_; refine AllReadyIn.cons rfl (fun K hK => ?_) AllReadyIn.nil)
          (go_simp; refine hK _ _ ?_; clear hK K)
          (refine wpAnyIn_ready (rs := [9]) (by kernel_rfl) (by simp) ?_; refine AllReadyIn.cons rfl (fun K hK => ?_) AllReadyIn.nil)
          (go_simp; refine hK _ _ ?_; clear hK K)
          refine wpAnyIn_done (by kernel_rfl) ?_ _
          gi_wp2
          exact roundF HI.out H1.out H2.out HLEN.out (by rw [HAB.out]; rfl) HE1.out HE2.out HE3.out
  case done =>
    rintro D W hD ⟨⟨v1, h1, h2⟩, h3, ⟨h4, h5⟩, h6⟩ hK
    obtain ⟨a, c, rfl⟩ : ∃ a c, v1 = .slice a (xsW o l).length c := by
      rcases h2.2 with ⟨h, hn⟩ | ⟨g, cap, _, h, _⟩
      · exact ⟨none, 0, by rw [h, hn]⟩
      · exact ⟨_, _, h⟩
    have hrowQ : StrRow W (.slice a (xsW o l).length c) (qF o l) := by
      refine StrRow.of_owns (base := w.heap.size + 4) (e := 9) ?_
      have h7 := h2
      unfold xsW at h7 ⊢
      rw [List.map_map, List.length_map] at h7
      rw [List.length_map]
      exact h7
    have hbd : Below W.heap.size W W.drew := ⟨rfl, rfl, rfl, Nat.le_refl _, fun _ _ => rfl⟩
    have CO := kof2_walk (.slice a (xsW o l).length c) (qF o l) W.drew (hrowQ.below hbd) (by have := qF_len hcnt; omega)
    have HB4 := Lib.hid h4
    have HDK := Lib.hid (And.intro hD (And.intro hK h5))
    have HSET := Lib.hid (qF_set (o := o) (l := l) hcnt)
    obtain ⟨ab, hab⟩ : ∃ ab, (xsW o l).all (·.2) = ab := ⟨_, rfl⟩
    have HAB := Lib.hid (show (qF o l).all (okO o) = ab by rw [← hab]; unfold xsW; rw [List.all_map]; rfl)
    rw [hab] at h3
    have c1 := h1.cell
    have c3 := h3.cell
    clear hab hrowQ b0 b1 b2 b3 hB0 hT hraw h1 h2 h3
    gi_wp2_with fail
    refine wpIn_region_any (by kernel_rfl) ?_
    change wpAnyIn _ _ _ _ _ _ _ _ _ (World.drew _)
    clear hK hD h4 h5 hbd
    refine wpAnyIn_ready (rs := [0, 2]) (by kernel_rfl) (by simp) ?_
    refine AllReadyIn.cons rfl (fun K hK0 => ?_) (AllReadyIn.cons rfl (fun K hK0 => ?_) AllReadyIn.nil)
    · go_simp
      refine hK0 _ _ ?_
      clear hK0 K
      refine wpAnyIn_ready (rs := [1, 2]) (by kernel_rfl) (by simp) ?_
      refine AllReadyIn.cons rfl (fun K hK0 => ?_) (AllReadyIn.cons rfl (fun K hK0 => ?_) AllReadyIn.nil)
      · go_simp
        refine ⟨trivial, (callsIn_wide.2 CO).mono ?_⟩
        rintro e w2 ⟨v2, rfl, how2, hb2⟩
        have HOW2 := Lib.hid how2
        have HB2 := Lib.hid ((HB4.out.trans (⟨rfl, rfl, rfl, Nat.le_refl _, fun _ _ => rfl⟩ : Below w.heap.size W W.drew)).trans (hb2.mono HB4.out.size))
        have HK2 := Lib.hid ((hb2.block D (heap_lt HDK.out.2.1)).trans HDK.out.2.1)
        have c3' := cell_below hb2 c3
        clear CO how2 hb2
        refine hK0 _ _ ?_
        clear hK0 K
        refine wpAnyIn_ready (rs := [2, 3]) (by kernel_rfl) (by simp) ?_
        refine AllReadyIn.cons rfl (fun K hK0 => ?_) (AllReadyIn.cons rfl (fun K hK0 => ?_) AllReadyIn.nil)
        · go_simp
          refine hK0 _ _ ?_
          clear hK0 K
          refine wpAnyIn_ready (rs := [3]) (by kernel_rfl) (by simp) ?_
          refine AllReadyIn.cons rfl (fun K hK0 => ?_) AllReadyIn.nil
          go_simp
          refine hK0 _ _ ?_
          clear hK0 K
          refine wpAnyIn_ready (rs := [4]) (by kernel_rfl) (by simp) ?_
          refine AllReadyIn.cons rfl (fun K hK0 => ?_) AllReadyIn.nil
          go_simp
          refine hK0 _ _ ?_
          clear hK0 K
          refine wpAnyIn_done (by kernel_rfl) ?_ _
          gi_wp2
          refine ⟨by simp, .inl ⟨_, _, rfl, run_takeDeferred HK2.out, ?_⟩⟩
          have hrow := ownsRow_putObj HOW2.out (.deferred none) HK2.out rfl
          have hbl := HB2.out.grown (grownBy_putObj' _ D (.deferred none)) HB2.out.size (fun k e => by cases e; have := HDK.out.1; omega)
          exact ⟨.tuple #[v2, .bool ab], by simp [results, Tryz.results29, go_sem], v2, setOf (qF o l), by rw [HSET.out.2.2, HAB.out], StrRow.of_owns hrow, HSET.out.1, HSET.out.2.1, hbl⟩
        · go_simp
          refine hK0 _ _ ?_
          clear hK0 K
          refine wpAnyIn_ready (rs := [2]) (by kernel_rfl) (by simp) ?_
          refine AllReadyIn.cons rfl (fun K hK0 => ?_) AllReadyIn.nil
          go_simp
          refine hK0 _ _ ?_
          clear hK0 K
          refine wpAnyIn_ready (rs := [4]) (by kernel_rfl) (by simp) ?_
          refine AllReadyIn.cons rfl (fun K hK0 => ?_) AllReadyIn.nil
          go_simp
          refine hK0 _ _ ?_
          clear hK0 K
          refine wpAnyIn_done (by kernel_rfl) ?_ _
          gi_wp2
          refine ⟨by simp, .inl ⟨_, _, rfl, run_takeDeferred HK2.out, ?_⟩⟩
          have hrow := ownsRow_putObj HOW2.out (.deferred none) HK2.out rfl
          have hbl := HB2.out.grown (grownBy_putObj' _ D (.deferred none)) HB2.out.size (fun k e => by cases e; have := HDK.out.1; omega)
          exact ⟨.tuple #[v2, .bool ab], by simp [results, Tryz.results29, go_sem], v2, setOf (qF o l), by rw [HSET.out.2.2, HAB.out], StrRow.of_owns hrow, HSET.out.1, HSET.out.2.1, hbl⟩
      · go_simp
        refine hK0 _ _ ?_
        clear hK0 K
        refine wpAnyIn_ready (rs := [1]) (by kernel_rfl) (by simp) ?_
        refine AllReadyIn.cons rfl (fun K hK0 => ?_) AllReadyIn.nil
        go_simp
        refine ⟨trivial, (callsIn_wide.2 CO).mono ?_⟩
        rintro e w2 ⟨v2, rfl, how2, hb2⟩
        have HOW2 := Lib.hid how2
        have HB2 := Lib.hid ((HB4.out.trans (⟨rfl, rfl, rfl, Nat.le_refl _, fun _ _ => rfl⟩ : Below w.heap.size W W.drew)).trans (hb2.mono HB4.out.size))
        have HK2 := Lib.hid ((hb2.block D (heap_lt HDK.out.2.1)).trans HDK.out.2.1)
        have c3' := cell_below hb2 c3
        clear CO how2 hb2
        refine hK0 _ _ ?_
        clear hK0 K
        refine wpAnyIn_ready (rs := [3]) (by kernel_rfl) (by simp) ?_
        refine AllReadyIn.cons rfl (fun K hK0 => ?_) AllReadyIn.nil
        go_simp
        refine hK0 _ _ ?_
        clear hK0 K
        refine wpAnyIn_ready (rs := [4]) (by kernel_rfl) (by simp) ?_
        refine AllReadyIn.cons rfl (fun K hK0 => ?_) AllReadyIn.nil
        go_simp
        refine hK0 _ _ ?_
        clear hK0 K
        refine wpAnyIn_done (by kernel_rfl) ?_ _
        gi_wp2
        refine ⟨by simp, .inl ⟨_, _, rfl, run_takeDeferred HK2.out, ?_⟩⟩
        have hrow := ownsRow_putObj HOW2.out (.deferred none) HK2.out rfl
        have hbl := HB2.out.grown (grownBy_putObj' _ D (.deferred none)) HB2.out.size (fun k e => by cases e; have := HDK.out.1; omega)
        exact ⟨.tuple #[v2, .bool ab], by simp [results, Tryz.results29, go_sem], v2, setOf (qF o l), by rw [HSET.out.2.2, HAB.out], StrRow.of_owns hrow, HSET.out.1, HSET.out.2.1, hbl⟩
    · go_simp
      refine hK0 _ _ ?_
      clear hK0 K
      refine wpAnyIn_ready (rs := [0]) (by kernel_rfl) (by simp) ?_
      refine AllReadyIn.cons rfl (fun K hK0 => ?_) AllReadyIn.nil
      go_simp
      refine hK0 _ _ ?_
      clear hK0 K
      refine wpAnyIn_ready (rs := [1]) (by kernel_rfl) (by simp) ?_
      refine AllReadyIn.cons rfl (fun K hK0 => ?_) AllReadyIn.nil
      go_simp
      refine ⟨trivial, (callsIn_wide.2 CO).mono ?_⟩
      rintro e w2 ⟨v2, rfl, how2, hb2⟩
      have HOW2 := Lib.hid how2
      have HB2 := Lib.hid ((HB4.out.trans (⟨rfl, rfl, rfl, Nat.le_refl _, fun _ _ => rfl⟩ : Below w.heap.size W W.drew)).trans (hb2.mono HB4.out.size))
      have HK2 := Lib.hid ((hb2.block D (heap_lt HDK.out.2.1)).trans HDK.out.2.1)
      have c3' := cell_below hb2 c3
      clear CO how2 hb2
      refine hK0 _ _ ?_
      clear hK0 K
      refine wpAnyIn_ready (rs := [3]) (by kernel_rfl) (by simp) ?_
      refine AllReadyIn.cons rfl (fun K hK0 => ?_) AllReadyIn.nil
      go_simp
      refine hK0 _ _ ?_
      clear hK0 K
      refine wpAnyIn_ready (rs := [4]) (by kernel_rfl) (by simp) ?_
      refine AllReadyIn.cons rfl (fun K hK0 => ?_) AllReadyIn.nil
      go_simp
      refine hK0 _ _ ?_
      clear hK0 K
      refine wpAnyIn_done (by kernel_rfl) ?_ _
      gi_wp2
      refine ⟨by simp, .inl ⟨_, _, rfl, run_takeDeferred HK2.out, ?_⟩⟩
      have hrow := ownsRow_putObj HOW2.out (.deferred none) HK2.out rfl
      have hbl := HB2.out.grown (grownBy_putObj' _ D (.deferred none)) HB2.out.size (fun k e => by cases e; have := HDK.out.1; omega)
      exact ⟨.tuple #[v2, .bool ab], by simp [results, Tryz.results29, go_sem], v2, setOf (qF o l), by rw [HSET.out.2.2, HAB.out], StrRow.of_owns hrow, HSET.out.1, HSET.out.2.1, hbl⟩
  case stop =>
    rintro D c pre W hD hpre h
    exact h.elim
end Go.Proofs.YtaompdnnkfmjhaaGreatDoor
