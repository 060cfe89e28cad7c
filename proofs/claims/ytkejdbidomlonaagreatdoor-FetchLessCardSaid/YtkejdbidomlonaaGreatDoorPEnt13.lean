/- fetch's entry, given its dir. -/
import Derived.Test.YtkejdbidomlonaaGreatDoorJOwnP
import Derived.Test.YtkejdbidomlonaaGreatDoorJTree13
namespace Go.Proofs.YtkejdbidomlonaaGreatDoor
open Go.RowKit

theorem at_snoc {p : List UInt8} (h : p ≠ []) : p ++ [47] = atD p := by unfold atD; rw [if_neg h]

set_option maxHeartbeats 8000000 in
set_option maxRecDepth 100000 in
theorem fent_of (W0 : World) (b : Nat) (la : Option Addr) (lc : Nat) (o : List Snp) (n : Nat) (ho : SnpRow W0 (.slice la o.length lc) o) (hT : ErrT W0) (hup : upS (namesR o)) (hol : o.length ≤ 1100000) (hraw : ∀ x ∈ o, x.2.length ≤ 1000000) (IH : DirOK W0 b la lc o n) : EntOK W0 b la lc o n := by
  rintro ⟨nm, kd, ex, ky⟩ d st ov w hd hn he hbw hst h65 h60
  obtain ⟨i0, hi, hz0, hz1, hz2⟩ := info_parts infoIt
  obtain ⟨w1, hw1, hb1, he1⟩ : ∃ w1, w1 = w.alloc (.cells #[S nm, .int .i64 kd, .bool ex, S ky] 80) ∧ Below w.heap.size w w1 ∧ w1.heap[w.heap.size]? = some (.cells #[S nm, .int .i64 kd, .bool ex, S ky] 80 (0, 0)) :=
    ⟨_, rfl, (Below.refl _ _).alloc (Nat.le_refl _) _, heap_alloc_new _ _⟩
  have hnm : nameB nm = true := (entOk_parts he).2.2
  have HFIT := Lib.hid (fun h => at_fit (d := d) (nm := nm) hd hnm h)
  have hnl : nm.length ≤ 31 := nameB_len hnm
  have hdl := at_len hd
  have HPNE := Lib.hid (show atD d ++ nm ≠ [] from fun e => by have h7 : nm = [] := (List.append_eq_nil_iff.1 e).2; rw [h7] at hnm; simp [nameB] at hnm)
  have HEC := Lib.hid (show entC1 o (dirC o n) d (nm, kd, ex, ky) st = if 8 ≤ (atD d ++ nm).count 47 then (st, 8)
    else if 60 ≤ st.1.length then (st, 9) else if kd = 3 then dirC o n ky (atD d ++ nm) (st.1 ++ [(atD d ++ nm, true, false, [])], st.2)
    else ((st.1 ++ [(atD d ++ nm, false, ex, (fileC o ky st.2).1)], (fileC o ky st.2).2.1), (fileC o ky st.2).2.2) from rfl)
  obtain ⟨r, hr⟩ : ∃ r, entC1 o (dirC o n) d (nm, kd, ex, ky) st = r := ⟨_, rfl⟩
  rw [hr] at HEC ⊢
  show Calls _ _ #[_, _, S (atD d ++ nm)] _ _
  have hpl : (atD d ++ nm).length ≤ 1200000 := by rw [List.length_append]; omega
  generalize atD d ++ nm = p at *
  have CC : Calls Tryz.prog 69 #[S p, .string ⟨#[47]⟩] w1 fun e w' => e = .returned (.int .i64 (p.count 47 : Nat)) ∧ w' = w1 := Tryz.strings_Count_one ⟨p.toArray⟩ 47 w1
  have HS1 := Lib.hid (hst.below hb1)
  have HG1 := Lib.hid ((FGot.start b w.heap.size w ov).below hb1)
  have HBW1 := Lib.hid (below_chain hbw hb1 hbw.size)
  have CF := pfile13_walk W0 b la lc o ho hT hup hol hraw ky p st ov w1 HBW1.out HS1.out h65
  have HST := Lib.hid hst
  have HBW := Lib.hid hbw
  have HNN := Lib.hid hn
  have HIH := Lib.hid IH
  have HB1 := Lib.hid hb1
  have HSZ1 := Lib.hid (show w.heap.size < w1.heap.size from heap_lt he1)
  clear hr hnm hnl hdl hd he ho hT hup hol hraw hst hbw hn IH
  go_enter Tryz.func45, Tryz.ntmps45
  go_upto_region 1 with fail
  rw [← hw1]
  clear hw1
  generalize hcnt : p.count 47 = c at *
  by_cases h8 : 8 ≤ c
  · have h8' : (8 : Int) ≤ (c : Int) := by omega
    have HRR := Lib.hid (show r = (st, 8) by rw [HEC.out, if_pos h8])
    clear CF HEC
    go_wp2_with fail
    refine CC.mono ?_
    rintro e w2 ⟨rfl, rfl⟩
    clear CC
    go_wp2
    go_ret
    have hb2 : Below w2.heap.size w2 (w2.alloc (.cells #[.int .i64 8, S p] 116)) := (Below.refl _ _).alloc (Nat.le_refl _) _
    exact ⟨_, ov, rfl, by rw [HRR.out]; exact HS1.out.below hb2, HG1.out.below hb2, by rw [HRR.out]; exact .inr ⟨(show (8 : Int) ≠ 0 by decide), (show (8 : Int) ∈ numsL by decide), _, _, rfl, heap_alloc_new _ _⟩⟩
  have h8' : ¬ (8 : Int) ≤ (c : Int) := by omega
  obtain ⟨hpf, -, hpd⟩ := HFIT.out (by omega)
  have HPF := Lib.hid hpf
  have HPD := Lib.hid hpd
  clear hpf hpd HFIT
  go_wp2_with fail
  refine CC.mono ?_
  rintro e w2 ⟨rfl, rfl⟩
  have hF := HS1.out.box
  have c1 := heap_cell hF (j := 1) (v := ov) rfl
  obtain ⟨oa, oc, rfl⟩ : ∃ oa oc, ov = .slice oa st.1.length oc := by
    rcases HS1.out.own.2 with ⟨h1, h2⟩ | ⟨g, cap, cur, h1, _⟩
    · exact ⟨none, 0, by rw [h1, h2]⟩
    · exact ⟨_, _, h1⟩
  clear CC
  by_cases hm : 60 ≤ st.1.length
  · have hm' : (60 : Int) ≤ (st.1.length : Int) := by omega
    have HRR := Lib.hid (show r = (st, 9) by rw [HEC.out, if_neg h8, if_pos hm])
    clear CF HEC hF
    go_wp2
    go_ret
    have hb2 : Below w2.heap.size w2 (w2.alloc (.cells #[.int .i64 9, S p] 116)) := (Below.refl _ _).alloc (Nat.le_refl _) _
    exact ⟨_, _, rfl, by rw [HRR.out]; exact HS1.out.below hb2, HG1.out.below hb2, by rw [HRR.out]; exact .inr ⟨(show (9 : Int) ≠ 0 by decide), (show (9 : Int) ∈ numsL by decide), _, _, rfl, heap_alloc_new _ _⟩⟩
  have hm' : ¬ (60 : Int) ≤ (st.1.length : Int) := by omega
  obtain ⟨⟨e0, e1, e2, e3⟩, -, -⟩ := box4 he1
  have HBB := Lib.hid HST.out.lo
  by_cases hk : kd = 3
  · subst hk
    have HRR := Lib.hid (show r = dirC o n ky p (st.1 ++ [(p, true, false, [])], st.2) by rw [HEC.out, if_neg h8, if_neg hm, if_pos rfl])
    clear CF HEC hF
    go_wp2_with (at_builtin; refine wpList_append_sep rfl _ _ 24 rfl W0.heap.size 50 i0 (.agg #[.string ⟨#[]⟩, .bool false, .bool false, .string ⟨#[]⟩]) 4 40 Tryz.underlying24 hi hz0 hz1 hz2 rfl (by decide) _ _ _ rfl (HS1.out.own.alloc _) ⟨w2.heap.size, 0, none⟩ 1 1 [S p, .bool true, .bool false, .string ⟨#[]⟩] rfl rfl (new_cells4 _ _ _ _ _ _) (it4_one (p, true, false, [])) (by unfold maxLen; omega) (by omega) (by have := HBW1.out.size; simp; omega) (by decide) ?_)
    intro v3 w3 h3 hg3 hsep3
    obtain ⟨va, vc, rfl⟩ : ∃ va vc, v3 = .slice va (st.1.length + 1) vc := by
      rcases h3.2 with ⟨h1, h2⟩ | ⟨g, cap, cur, h1, _⟩
      · omega
      · exact ⟨_, _, h1⟩
    have HA := HS1.out.below ((Below.refl w2.heap.size w2).alloc (Nat.le_refl _) (.cells #[S p, .bool true, .bool false, .string ⟨#[]⟩] 50))
    have HGA := HG1.out.below ((Below.refl w2.heap.size w2).alloc (Nat.le_refl _) (.cells #[S p, .bool true, .bool false, .string ⟨#[]⟩] 50))
    have hF3 := (hg3.block b (heap_lt HA.box) (fun e => HA.ne e.symm)).trans HA.box
    have hwb : w.heap.size ≠ b := by have := heap_lt HST.out.box; omega
    have hE3 : w3.heap[w.heap.size]? = some (.cells #[S nm, .int .i64 3, .bool ex, S ky] 80 (0, 0)) := by
      refine (hg3.block w.heap.size (by rw [World.size_alloc]; have := HSZ1.out; omega) (fun e => ?_)).trans ((Below.heap_alloc _ _ _ (heap_lt he1)).trans he1)
      have := (HST.out.own.lt _ e.symm).2; omega
    have HS4 := Lib.hid (HA.app (x := (p, true, false, [])) h3 hg3)
    have HG4 := Lib.hid (HGA.app (ev := .slice va (st.1.length + 1) vc) hg3 (by rw [World.size_alloc]; exact hsep3) (Nat.le_refl _))
    obtain ⟨w4, hw4, hE4⟩ : ∃ w4, w4 = w3.setCell ⟨b, 1, none⟩ (.slice va (st.1.length + 1) vc) ∧ w4.heap[w.heap.size]? = some (.cells #[S nm, .int .i64 3, .bool ex, S ky] 80 (0, 0)) :=
      ⟨_, rfl, (Below.heap_setCell _ _ _ _ hwb).trans hE3⟩
    rw [← hw4] at HS4 HG4
    have HBW4 := Lib.hid (show Below W0.heap.size W0 w4 from HG4.out.base HBW.out HBW.out.size HST.out.lo (fun j hj => (HST.out.own.lt j hj).1))
    have CD := HIH.out ky p (st.1 ++ [(p, true, false, [])], st.2) _ w4 (.inr HPF.out) (by have := HNN.out; have := HPD.out; omega) HBW4.out HS4.out h65 (by simp; omega)
    rw [← at_snoc HPNE.out, ← S_app] at CD
    have hns : ¬ 9223372036854775807 < p.length + 1 := by omega
    have g1 := heap_cell hF3 (j := 1) (v := .slice oa st.1.length oc) rfl
    have gf := Lib.frozen_of_heap hF3 1
    have g2 := is_some g1
    clear HA HGA h3 hg3 hsep3 hE3 e0 e1 e2 e3 c1 he1
    go_upto_region 7 with fail
    rw [← hw4]
    clear hw4 hF3 g1 gf g2
    obtain ⟨⟨e0, e1, e2, e3⟩, -, -⟩ := box4 hE4
    go_wp2_with fail
    refine CD.mono ?_
    rintro e w5 ⟨ev, v5, rfl, hs5, hg5, her⟩
    have HS5 := Lib.hid hs5
    have HG5 := Lib.hid (HG4.out.trans hg5 HG4.out.size)
    have HER := Lib.hid her
    clear CD hs5 hg5 her
    go_wp2
    go_ret
    exact ⟨ev, v5, rfl, by rw [HRR.out]; exact HS5.out, HG5.out, by rw [HRR.out]; exact HER.out⟩
  · have hk' : (kd == 3) = false := by rw [beq_eq_false_iff_ne]; exact hk
    have HRR := Lib.hid (show r = ((st.1 ++ [(p, false, ex, (fileC o ky st.2).1)], (fileC o ky st.2).2.1), (fileC o ky st.2).2.2) by rw [HEC.out, if_neg h8, if_neg hm, if_neg hk])
    generalize fileC o ky st.2 = fc at *
    clear HEC hF
    go_wp2_with fail
    refine CF.mono ?_
    rintro e w3 ⟨ev, rfl, hs3, hg3, her⟩
    have hwb : w.heap.size ≠ b := by have := heap_lt HST.out.box; omega
    have hE3 : w3.heap[w.heap.size]? = some (.cells #[S nm, .int .i64 kd, .bool ex, S ky] 80 (0, 0)) :=
      (hg3.block w.heap.size HSZ1.out HSZ1.out hwb (fun e => by have := (HST.out.own.lt _ e.symm).2; omega)).trans he1
    obtain ⟨w4, hw4, hF4, hE4, HS4, HG4, HER4⟩ : ∃ w4 : World, w4 = { w3 with drawn := w3.drawn + 1 } ∧ w4.heap[b]? = some (.cells #[.slice la o.length lc, .slice oa st.1.length oc, .int .i64 (fc.2.1 : Nat)] 55 (0, 0)) ∧ w4.heap[w.heap.size]? = some (.cells #[S nm, .int .i64 kd, .bool ex, S ky] 80 (0, 0)) ∧ Hid (FSt W0.heap.size b w4 la lc o (.slice oa st.1.length oc) (st.1, fc.2.1)) ∧ Hid (FGot b w.heap.size w w4 (.slice oa st.1.length oc) (.slice oa st.1.length oc)) ∧ Hid (ErrC fc.2.2 ev w4) := by
      have hdr : Below w3.heap.size w3 { w3 with drawn := w3.drawn + 1 } := ⟨rfl, rfl, rfl, Nat.le_refl _, fun _ _ => rfl⟩
      exact ⟨_, rfl, hs3.box, hE3, Lib.hid (hs3.below hdr), Lib.hid ((HG1.out.trans hg3 HB1.out.size).below hdr), Lib.hid (her.below hdr)⟩
    clear CF hs3 hg3 her hE3 he1 e0 e1 e2 e3 c1
    go_upto_region 9 with fail
    (refine wp_region_held (S := fun w' => w'.heap[w.heap.size]? = some (.cells #[S nm, .int .i64 kd, .bool ex, S ky] 80 (0, 0))) (by kernel_rfl) ?_)
    rw [← hw4]
    clear hw4
    (refine wpAnyH_take (i := 0) (v := ?_) rfl (by kernel_rfl) (by kernel_rfl) (by kernel_rfl) (fun _ _ _ h => h) (Or.inl ⟨by rfl, ?_⟩) (by exact hE4) ?_; rotate_left; (intro w9 hS9; skip; go_simp; try with_reducible rfl))
    (refine wpAnyH_take (i := 1) (v := ?_) rfl (by kernel_rfl) (by kernel_rfl) (by kernel_rfl) (fun _ _ _ h => h) (Or.inl ⟨by rfl, ?_⟩) (by exact hE4) ?_; rotate_left; (intro w9 hS9; skip; go_simp; try with_reducible rfl))
    (refine wpAnyH_take (i := 2) (v := ?_) rfl (by kernel_rfl) (by kernel_rfl) (by kernel_rfl) (fun _ _ _ h => h) (Or.inl ⟨by rfl, ?_⟩) (by exact hE4) ?_; rotate_left; (intro w9 hS9; skip; go_simp; try with_reducible rfl))
    (refine wpAnyH_take (i := 3) (v := ?_) rfl (by kernel_rfl) (by kernel_rfl) (by kernel_rfl) (fun _ _ _ h => h) (Or.inl ⟨by rfl, ?_⟩) (by exact hE4) ?_; rotate_left; (intro w9 hS9; skip; go_simp; try with_reducible rfl))
    (refine wpAnyH_take (i := 5) (v := ?_) rfl (by kernel_rfl) (by kernel_rfl) (by kernel_rfl) (fun _ _ _ h => h) (Or.inl ⟨by rfl, ?_⟩) (by exact hE4) ?_; rotate_left; (intro w9 hS9; skip; go_simp; try with_reducible rfl))
    (refine wpAnyH_take (i := 6) (v := ?_) rfl (by kernel_rfl) (by kernel_rfl) (by kernel_rfl) (fun _ _ _ h => h) (Or.inl ⟨by rfl, ?_⟩) (by exact hE4) ?_; rotate_left; (intro w9 hS9; skip; go_simp; try with_reducible rfl))
    (refine wpAnyH_take (i := 7) (v := ?_) rfl (by kernel_rfl) (by kernel_rfl) (by kernel_rfl) (fun _ _ _ h => h) (Or.inl ⟨by rfl, ?_⟩) (by exact hE4) ?_; rotate_left; (intro w9 hS9; (have c2 := heap_cell hS9 (j := 2) (v := .bool ex) rfl); go_simp; try with_reducible rfl))
    (refine wpAnyH_take (i := 8) (v := ?_) rfl (by kernel_rfl) (by kernel_rfl) (by kernel_rfl) (fun _ _ _ h => h) (Or.inl ⟨by rfl, ?_⟩) (by exact hE4) ?_; rotate_left; (intro w9 hS9; skip; go_simp; try with_reducible rfl))
    (refine wpAnyH_take (i := 9) (v := ?_) rfl (by kernel_rfl) (by kernel_rfl) (by kernel_rfl) (fun _ _ _ h => h) (Or.inl ⟨by rfl, ?_⟩) (by exact hE4) ?_; rotate_left; (intro w9 hS9; skip; go_simp; try with_reducible rfl))
    have HA := Lib.hid (HS4.out.below ((Below.refl w4.heap.size w4).alloc (Nat.le_refl _) (.cells #[S p, .bool false, .bool ex, S fc.1] 50)))
    have HGA := Lib.hid (HG4.out.below ((Below.refl w4.heap.size w4).alloc (Nat.le_refl _) (.cells #[S p, .bool false, .bool ex, S fc.1] 50)))
    have HEA := Lib.hid ((Below.heap_alloc w4 (.cells #[S p, .bool false, .bool ex, S fc.1] 50) _ (heap_lt hE4)).trans hE4)
    have HERA := Lib.hid (show ErrC fc.2.2 ev (w4.alloc (.cells #[S p, .bool false, .bool ex, S fc.1] 50)) from HER4.out.below ((Below.refl w4.heap.size w4).alloc (Nat.le_refl _) _))
    have HZ4 := Lib.hid (show W0.heap.size ≤ w4.heap.size by have := heap_lt hF4; have := HST.out.lo; omega)
    have HWB := Lib.hid hwb
    have HWO := Lib.hid (show ∀ j, (Value.slice oa st.1.length oc).ownBlock = some j → j < w.heap.size from fun j hj => (HST.out.own.lt j hj).2)
    have c1 := heap_cell hF4 (j := 1) (v := .slice oa st.1.length oc) rfl
    have c1' := heap_cell HA.out.box (j := 1) (v := .slice oa st.1.length oc) rfl
    refine wpAnyH_two (i := 4) (j := 10) (by kernel_rfl) rfl rfl (fun K hK => ?_) (fun K hK => ?_)
    · (go_simp; refine hK _ _ hE4 ?_; clear hK K)
      refine wpAnyH_one (i := 10) (by kernel_rfl) rfl (fun K hK => ?_)
      (go_simp; refine hK _ _ HEA.out ?_; clear hK K)
      refine wpAnyH_one (i := 11) (by kernel_rfl) rfl (fun K hK => ?_)
      rw [if_pos (by rfl)]
      refine wp_append_sep (.tmp 58) (.tmp 64) 24 rfl W0.heap.size 50 i0 (.agg #[.string ⟨#[]⟩, .bool false, .bool false, .string ⟨#[]⟩]) 4 40 Tryz.underlying24 hi hz0 hz1 hz2 rfl (by decide) (.slice oa st.1.length oc) st.1.length (st.1.flatMap itC) rfl HA.out.own ⟨w4.heap.size, 0, none⟩ 1 1 [S p, .bool false, .bool ex, S fc.1] rfl rfl (new_cells4 _ _ _ _ _ _) (it4_one (p, false, ex, fc.1)) (by unfold maxLen; omega) (by omega) (by rw [World.size_alloc]; have := HZ4.out; omega) (by decide) ?_
      intro v5 w5 h5 hg5 hsep5
      obtain ⟨va, vc, rfl⟩ : ∃ va vc, v5 = .slice va (st.1.length + 1) vc := by
        rcases h5.2 with ⟨h1, h2⟩ | ⟨g, cap, cur, h1, _⟩
        · omega
        · exact ⟨_, _, h1⟩
      have hF5 := (hg5.block b (heap_lt HA.out.box) (fun e => HA.out.ne e.symm)).trans HA.out.box
      have hE5 := (hg5.block w.heap.size (heap_lt HEA.out) (fun e => by have := HWO.out _ e.symm; omega)).trans HEA.out
      have HS6 := Lib.hid (HA.out.app (x := (p, false, ex, fc.1)) h5 hg5)
      have HG6 := Lib.hid (HGA.out.app (ev := .slice va (st.1.length + 1) vc) hg5 (by first | exact hsep5 | (rw [World.size_alloc]; exact hsep5)) (Nat.le_refl _))
      have HGR := Lib.hid hg5
      refine hK _ _ hE5 ?_
      clear hK K h5 hg5 hsep5 hF4 hE4 c1 c1'
      have g1 := heap_cell hF5 (j := 1) (v := .slice oa st.1.length oc) rfl
      have gf := Lib.frozen_of_heap hF5 1
      have g2 := is_some g1
      have HER6 := Lib.hid (show ErrC fc.2.2 ev (w5.setCell ⟨b, 1, none⟩ (.slice va (st.1.length + 1) vc)) from HERA.out.imp id fun ⟨h1, h2, g, q, h3, h4⟩ => ⟨h1, h2, g, q, h3, by
        have hgo : some g ≠ (Value.slice oa st.1.length oc).ownBlock := by
          intro e
          rcases HA.out.own.2 with ⟨h7, _⟩ | ⟨k, cap, cur, h7, _, hk, _⟩
          · rw [h7] at e; simp [Value.ownBlock] at e
          · rw [h7] at e; simp only [Value.ownBlock, Option.some.injEq] at e
            subst e
            rw [h4] at hk
            injection hk with hk
            injection hk with _ hk
            exact absurd hk (by decide)
        have hgb : g ≠ b := by
          rintro rfl
          have h8 := HA.out.box
          rw [h4] at h8
          injection h8 with h8
          injection h8 with _ h8
          exact absurd h8 (by decide)
        exact (Below.heap_setCell _ _ _ _ hgb).trans ((HGR.out.block g (heap_lt h4) hgo).trans h4)⟩)
      (refine wpAnyH_take (i := 12) (v := ?_) rfl (by kernel_rfl) (by kernel_rfl) (by kernel_rfl) (fun _ _ _ h => h) (Or.inl ⟨by rfl, ?_⟩) (by exact hE5) ?_; rotate_left; (intro w9 hS9; skip; go_simp; try with_reducible rfl))
      (refine wpAnyH_take (i := 13) (v := ?_) rfl (by kernel_rfl) (by kernel_rfl) (by kernel_rfl) (fun _ _ _ h => h) (Or.inl ⟨by rfl, ?_⟩) (by exact hE5) ?_; rotate_left; (intro w9 hS9; skip; go_simp; try with_reducible rfl))
      (refine wpAnyH_one (i := 14) (by kernel_rfl) rfl (fun K hK => ?_); go_simp; refine hK _ _ ((Below.heap_setCell _ _ _ _ HWB.out).trans hE5) ?_; clear hK K)
      (refine wpAnyH_done (by kernel_rfl) ?_ _)
      clear g1 gf g2 hF5 hE5
      go_wp2
      go_ret
      exact ⟨ev, rfl, _, by rw [HRR.out]; exact HS6.out, HG6.out, by rw [HRR.out]; exact HER6.out⟩
    · (go_simp; refine hK _ _ HEA.out ?_; clear hK K)
      refine wpAnyH_one (i := 4) (by kernel_rfl) rfl (fun K hK => ?_)
      (go_simp; refine hK _ _ HEA.out ?_; clear hK K)
      refine wpAnyH_one (i := 11) (by kernel_rfl) rfl (fun K hK => ?_)
      rw [if_pos (by rfl)]
      refine wp_append_sep (.tmp 58) (.tmp 64) 24 rfl W0.heap.size 50 i0 (.agg #[.string ⟨#[]⟩, .bool false, .bool false, .string ⟨#[]⟩]) 4 40 Tryz.underlying24 hi hz0 hz1 hz2 rfl (by decide) (.slice oa st.1.length oc) st.1.length (st.1.flatMap itC) rfl HA.out.own ⟨w4.heap.size, 0, none⟩ 1 1 [S p, .bool false, .bool ex, S fc.1] rfl rfl (new_cells4 _ _ _ _ _ _) (it4_one (p, false, ex, fc.1)) (by unfold maxLen; omega) (by omega) (by rw [World.size_alloc]; have := HZ4.out; omega) (by decide) ?_
      intro v5 w5 h5 hg5 hsep5
      obtain ⟨va, vc, rfl⟩ : ∃ va vc, v5 = .slice va (st.1.length + 1) vc := by
        rcases h5.2 with ⟨h1, h2⟩ | ⟨g, cap, cur, h1, _⟩
        · omega
        · exact ⟨_, _, h1⟩
      have hF5 := (hg5.block b (heap_lt HA.out.box) (fun e => HA.out.ne e.symm)).trans HA.out.box
      have hE5 := (hg5.block w.heap.size (heap_lt HEA.out) (fun e => by have := HWO.out _ e.symm; omega)).trans HEA.out
      have HS6 := Lib.hid (HA.out.app (x := (p, false, ex, fc.1)) h5 hg5)
      have HG6 := Lib.hid (HGA.out.app (ev := .slice va (st.1.length + 1) vc) hg5 (by first | exact hsep5 | (rw [World.size_alloc]; exact hsep5)) (Nat.le_refl _))
      have HGR := Lib.hid hg5
      refine hK _ _ hE5 ?_
      clear hK K h5 hg5 hsep5 hF4 hE4 c1 c1'
      have g1 := heap_cell hF5 (j := 1) (v := .slice oa st.1.length oc) rfl
      have gf := Lib.frozen_of_heap hF5 1
      have g2 := is_some g1
      have HER6 := Lib.hid (show ErrC fc.2.2 ev (w5.setCell ⟨b, 1, none⟩ (.slice va (st.1.length + 1) vc)) from HERA.out.imp id fun ⟨h1, h2, g, q, h3, h4⟩ => ⟨h1, h2, g, q, h3, by
        have hgo : some g ≠ (Value.slice oa st.1.length oc).ownBlock := by
          intro e
          rcases HA.out.own.2 with ⟨h7, _⟩ | ⟨k, cap, cur, h7, _, hk, _⟩
          · rw [h7] at e; simp [Value.ownBlock] at e
          · rw [h7] at e; simp only [Value.ownBlock, Option.some.injEq] at e
            subst e
            rw [h4] at hk
            injection hk with hk
            injection hk with _ hk
            exact absurd hk (by decide)
        have hgb : g ≠ b := by
          rintro rfl
          have h8 := HA.out.box
          rw [h4] at h8
          injection h8 with h8
          injection h8 with _ h8
          exact absurd h8 (by decide)
        exact (Below.heap_setCell _ _ _ _ hgb).trans ((HGR.out.block g (heap_lt h4) hgo).trans h4)⟩)
      (refine wpAnyH_take (i := 12) (v := ?_) rfl (by kernel_rfl) (by kernel_rfl) (by kernel_rfl) (fun _ _ _ h => h) (Or.inl ⟨by rfl, ?_⟩) (by exact hE5) ?_; rotate_left; (intro w9 hS9; skip; go_simp; try with_reducible rfl))
      (refine wpAnyH_take (i := 13) (v := ?_) rfl (by kernel_rfl) (by kernel_rfl) (by kernel_rfl) (fun _ _ _ h => h) (Or.inl ⟨by rfl, ?_⟩) (by exact hE5) ?_; rotate_left; (intro w9 hS9; skip; go_simp; try with_reducible rfl))
      (refine wpAnyH_one (i := 14) (by kernel_rfl) rfl (fun K hK => ?_); go_simp; refine hK _ _ ((Below.heap_setCell _ _ _ _ HWB.out).trans hE5) ?_; clear hK K)
      (refine wpAnyH_done (by kernel_rfl) ?_ _)
      clear g1 gf g2 hF5 hE5
      go_wp2
      go_ret
      exact ⟨ev, rfl, _, by rw [HRR.out]; exact HS6.out, HG6.out, by rw [HRR.out]; exact HER6.out⟩
end Go.Proofs.YtkejdbidomlonaaGreatDoor
