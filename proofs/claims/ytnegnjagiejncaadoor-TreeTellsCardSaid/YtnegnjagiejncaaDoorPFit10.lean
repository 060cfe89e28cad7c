/- The program's Fit of trees. -/
import Derived.Test.YtnegnjagiejncaaDoorFitPlain10
import Derived.Test.YtnegnjagiejncaaDoorMapB
import Derived.Test.YtnegnjagiejncaaDoorPT10
import Derived.Test.YtnegnjagiejncaaDoorDir
import Derived.Deep.CutRange
namespace Go.Proofs.YtnegnjagiejncaaDoor
open Go.RowKit

set_option maxHeartbeats 8000000 in
set_option maxRecDepth 100000 in
theorem pfit10_walk (v : Value) (l : List Itm) (w : World) (hr : ItRow w v l) (hcnt : l.length ≤ 1000000) (hs : sizeT l ≤ 1000000000000) (hM : Mx w) (hpl : ∀ x ∈ l, x.1.length ≤ 1000000) :
    Calls Tryd.prog 24 #[v] w fun e w' => e = .returned (.bool (fitTB l)) ∧ Below w.heap.size w w' := by
  have HR0 := Lib.hid hr
  have HM := Lib.hid hM
  have HN := Lib.hid (fun h : ¬ FitT l => fitTB_no h)
  have HY := Lib.hid (fun h : FitT l => fitTB_iff.2 h)
  generalize fitTB l = res at *
  have HPL := Lib.hid hpl
  obtain ⟨a, c, rfl, hc, hm, hx⟩ := hr
  have HX := Lib.hid hx
  clear hx hpl hM
  by_cases g : 60 < l.length
  · have g' : (60 : Int) < (l.length : Int) := by omega
    have HF := Lib.hid (HN.out (fun h => by have := h.len; omega))
    clear g
    go_enter Tryd.func24, Tryd.ntmps24
    go_wp2
    go_ret
    exact ⟨by rw [HF.out]; rfl, Below.refl _ _⟩
  have g' : ¬ (60 : Int) < (l.length : Int) := by omega
  have HG := Lib.hid g
  clear g
  obtain ⟨w1, hrun, hbm, hgr⟩ := (BMap.made w).update (T := 78) Tryd.underlying78 (by unfold maxLen; omega) (key := []) (by simp [maxLen]) true
  replace hrun : Sem.run Tryd.prog (Instr.mapUpdate 78 (Value.map (some w.heap.size)) (Value.string { data := #[] }) (Value.bool true)) (w.alloc (.map #[] 0)) = Result.ok () w1 := hrun
  have hB1 : Below w.heap.size w w1 := ((Below.refl _ _).alloc (Nat.le_refl _) (.map #[] 0)).grown hgr (by simp) (fun k h => by cases h; exact Nat.le_refl _)
  replace hbm : BMap w1 w.heap.size 1 (dirT (l.take 0)) := by
    have e : dirT (l.take 0) = (fun k => if k = [] then true else false) := by
      rw [List.take_zero, dirT_nil]; funext d; by_cases h : d = [] <;> simp [h]
    rw [e]; exact hbm
  have hmk : Sem.run Tryd.prog (Instr.makeMap 78 none) w = Result.ok (Value.map (some w.heap.size)) (w.alloc (.map #[] 0)) := by rfl
  have HBM := Lib.hid hbm
  clear hbm hgr
  go_enter Tryd.func24, Tryd.ntmps24
  go_wp2
  clear hrun hmk
  go_loopw [13] (fun i wr => ∃ k : Nat, k ≤ l.length ∧ i = .int .i64 k ∧ BMap wr w.heap.size (k + 1) (dirT (l.take k)) ∧ FitK l k ∧ Below w.heap.size w wr) (fun i _ => l.length - (intOf i).toNat)
  case atStart => exact ⟨0, Nat.zero_le _, rfl, HBM.out, FitK.start l, hB1⟩
  case round =>
    obtain ⟨k, hk, rfl, hbm, hfk, hB⟩ := hrel
    have HFK := Lib.hid hfk
    have HB := Lib.hid hB
    clear HBM hB1
    by_cases h1 : k < l.length
    · have h1' : (k : Int) < (l.length : Int) := by omega
      have hx := HX.out
      rcases hx with hx | ⟨b, o, rfl, hx⟩
      · exfalso; rw [hx] at h1; simp at h1
      obtain ⟨hx1, hx2, hx3, hx4⟩ := it_cells hx h1
      have hc1 := cell_below hB hx1
      have hc2 := cell_below hB hx2
      have hc3 := cell_below hB hx3
      have hc4 := cell_below hB hx4
      have HNOK := Lib.hid (fun h => HN.out (okT_not h1 h))
      have HDEF := Lib.hid (show okT l l[k] = (fitB l[k].1 && (!oddT l[k] && (decide (l[k].2.2.2.length ≤ 32768) && underT l l[k].1))) from rfl)
      have HNEXT := Lib.hid (fun hu h2 h3 h4 h5 => (show FitK l (k + 1) ∧ (fun d => if d = l[k].1 then l[k].2.1 else dirT (l.take k) d) = dirT (l.take (k + 1)) from ⟨HFK.out.next h1 hu h2 h3 h4 h5, dirT_step h1 hu h2⟩))
      have HDIR := Lib.hid (fun h => HN.out (HFK.out.dir h1 h))
      have HUS := Lib.hid (fun h => upT_step h1 HFK.out.up h)
      have HDN := Lib.hid (fun h0 h => HN.out (upT_not h1 h0 h))
      have hpl1 := HPL.out l[k] (List.getElem_mem h1)
      have hprev : k = 0 ∨ (0 < k ∧ ∃ p0 : List UInt8, p0 = (l[k - 1]'(by omega)).1 ∧ p0.length ≤ 1000000 ∧ w.cell? ⟨b, o + (k - 1) * 4, none⟩ = some (S p0)) := by
        rcases Nat.eq_zero_or_pos k with h0 | h0
        · exact .inl h0
        · exact .inr ⟨h0, _, rfl, HPL.out _ (List.getElem_mem _), (it_cells hx (j := k - 1) (by omega)).1⟩
      clear hx hx1 hx2 hx3 hx4 hfk
      have CF := fun W h => fit_walk l[k].1 W h hpl1
      have CODD := fun W => podd10_walk l[k] W
      have CD := fun W h => dir_walk l[k].1 W h hpl1
      have hdl : (dirL l[k].1).length ≤ 1000000 := by
        refine Nat.le_trans ?_ hpl1
        by_cases h : dirL l[k].1 = []
        · rw [h]; exact Nat.zero_le _
        · have := dirL_of h
          unfold belowT at this
          simp only [Bool.and_eq_true, decide_eq_true_eq] at this
          exact Nat.le_of_lt this.1
      generalize l[k] = y at *
      obtain ⟨nm, dd, ex, dt⟩ := y
      simp only at hc1 hc2 hc3 hc4 CF CODD CD HUS HDN HDEF HNEXT HDIR hpl1 hdl
      generalize fitB nm = fb at *
      generalize oddT (nm, dd, ex, dt) = od at *
      generalize dirL nm = d at *
      generalize hub : dirT (l.take k) d = ub at *
      obtain ⟨w2, hw2, hb2, hr0⟩ : ∃ w2, w2 = wr.alloc (.cells #[S nm, .bool dd, .bool ex, S dt] 32) ∧ Below wr.heap.size wr w2 ∧ w2.heap[wr.heap.size]? = some (.cells #[S nm, .bool dd, .bool ex, S dt] 32 (0, 0)) :=
        ⟨_, rfl, (Below.refl _ _).alloc (Nat.le_refl _) _, heap_alloc_new _ _⟩
      obtain ⟨⟨r0, r1, r2, r3⟩, -, -⟩ := box4 hr0
      clear hr0
      go_upto_region 7 with fail
      rw [← hw2]
      clear hw2 hc1 hc2 hc3 hc4
      have hbm2 := hbm.kept hb2
      replace hB := below_chain hB hb2 hB.size
      clear hb2 hbm HB
      go_wp2_with fail
      refine (CF _ (HM.out.below hB)).mono ?_
      rintro e w3 ⟨rfl, hb3⟩
      have hbm3 := hbm2.kept hb3
      (replace r0 := cell_below hb3 r0; replace r1 := cell_below hb3 r1; replace r2 := cell_below hb3 r2; replace r3 := cell_below hb3 r3; replace hB := below_chain hB hb3 hB.size; clear hb3)
      clear hbm2
      cases fb with
      | false =>
        have HF := Lib.hid (HNOK.out (by rw [HDEF.out]; rfl))
        go_wp2
        go_ret
        exact ⟨by rw [HF.out]; rfl, hB⟩
      | true =>
      go_wp2_with fail
      refine (CODD _).mono ?_
      rintro e w4 ⟨rfl, hb4⟩
      have hbm4 := hbm3.kept hb4
      (replace r0 := cell_below hb4 r0; replace r1 := cell_below hb4 r1; replace r2 := cell_below hb4 r2; replace r3 := cell_below hb4 r3; replace hB := below_chain hB hb4 hB.size; clear hb4)
      clear hbm3
      cases od with
      | true =>
        have HF := Lib.hid (HNOK.out (by rw [HDEF.out]; rfl))
        go_wp2
        go_ret
        exact ⟨by rw [HF.out]; rfl, hB⟩
      | false =>
      by_cases hdt : dt.length ≤ 32768
      case neg =>
        have HF := Lib.hid (HNOK.out (by rw [HDEF.out, decide_eq_false hdt]; rfl))
        have hd' : decide ((32768 : Int) < (dt.length : Int)) = true := decide_eq_true (by omega)
        have hd2 : (32768 : Int) < (dt.length : Int) := by omega
        clear hdt
        go_wp2
        go_ret
        exact ⟨by rw [HF.out]; rfl, hB⟩
      case pos =>
      have hd' : decide ((32768 : Int) < (dt.length : Int)) = false := decide_eq_false (by omega)
      have hd2 : ¬ (32768 : Int) < (dt.length : Int) := by omega
      have HDT := Lib.hid hdt
      clear hdt
      go_wp2_with fail
      refine (CD _ (HM.out.below hB)).mono ?_
      rintro e w5 ⟨rfl, hb5⟩
      have hbm5 := hbm4.kept hb5
      (replace r0 := cell_below hb5 r0; replace r1 := cell_below hb5 r1; replace r2 := cell_below hb5 r2; replace r3 := cell_below hb5 r3; replace hB := below_chain hB hb5 hB.size; clear hb5)
      clear hbm4
      have hlook := hbm5.look (T := 78) Tryd.underlying78 (key := d) (by unfold maxLen; omega)
      rw [hub] at hlook
      have HBM5 := Lib.hid hbm5
      clear hbm5 hub
      cases ub with
      | false =>
        have HF := Lib.hid (HDIR.out rfl)
        go_wp2
        go_ret
        exact ⟨by rw [HF.out]; rfl, hB⟩
      | true =>
      go_upto_region 9 with fail
      rcases hprev with h0 | ⟨h0, p0, hp0, hpl0, hpc⟩
      · have hkd : decide (0 < k) = false := decide_eq_false (by omega)
        have h00 := Lib.hid h0
        clear h0
        (refine wp_region_later (by kernel_rfl) (by kernel_rfl) ?_; (repeat (go_big_quiet_step (fail))); refine wpQuiet_nil ?_; intro _ hw1; obtain ⟨lw, hw2⟩ := hw1; subst hw2)
        have hbm6 := HBM5.out.kept lw.below
        have hB6 := below_chain hB lw.below hB.size
        have s0 := LaterOf.cell r0 lw
        have s1 := LaterOf.cell r1 lw
        obtain ⟨w7, hrun, hbm7, hgr⟩ := hbm6.update (T := 78) Tryd.underlying78 (by unfold maxLen; omega) (key := nm) (by unfold maxLen; omega) dd
        have hN := HNEXT.out (HUS.out (fun h => by have := h00.out; omega)) (by trivial) (by trivial) HDT.out (by trivial)
        rw [hN.2] at hbm7
        have HBM7 := Lib.hid hbm7
        have hB7 : Below w.heap.size w w7 := hB6.grown hgr hB6.size (fun j h => by cases h; exact Nat.le_refl _)
        have HFK7 := Lib.hid hN.1
        clear hgr hbm7 hbm6 hN r0 r1 r2 r3 hlook
        go_wp2
        go_roundw
        case rel => exact ⟨k + 1, by omega, by go_num, HBM7.out, HFK7.out, hB7⟩
        case measure => simp [intOf]; omega
      · have hkd : decide (0 < k) = true := decide_eq_true h0
        have hwr : IntKind.i64.wrap ((k : Int) - 1) = ((k - 1 : Nat) : Int) := by rw [IntKind.wrap_i64]; omega
        have hkm' : ((k - 1 : Nat) : Int) < (l.length : Int) := by omega
        have hkm2 : k - 1 < l.length := by omega
        have q1 := LaterOf.cell (cell_below hB hpc)
        have q0 := LaterOf.cell r0
        have CO := fun q : LaterOf w5 => order_walk p0 nm q.world ((HM.out.below hB).below q.below) hpl0 hpl1
        have h3 := ltP_three p0 nm
        have HUS := Lib.hid (fun h : ltP p0 nm = true => HUS.out (fun _ => by rw [← hp0]; exact h))
        have HDN := Lib.hid (fun h : ltP p0 nm = false => HDN.out h0 (by rw [← hp0]; exact h))
        clear hp0
        rcases h3 with ⟨ho, hlt, -, -⟩ | ⟨ho, hlt, -, -⟩ | ⟨ho, hlt, -, -⟩
        · rw [ho] at CO
          have HLT := Lib.hid hlt
          clear hlt ho hpc
          (refine wp_region_later (by kernel_rfl) (by kernel_rfl) ?_; (repeat (go_big_quiet_step ((go_at_call 54; exact LaterOf.call _ (CO _))))); refine wpQuiet_nil ?_; intro _ hw1; obtain ⟨lw, hw2⟩ := hw1; subst hw2)
          clear q0 q1 CO
          have hbm6 := HBM5.out.kept lw.below
          have hB6 := below_chain hB lw.below hB.size
          have s0 := LaterOf.cell r0 lw
          have s1 := LaterOf.cell r1 lw
          obtain ⟨w7, hrun, hbm7, hgr⟩ := hbm6.update (T := 78) Tryd.underlying78 (by unfold maxLen; omega) (key := nm) (by unfold maxLen; omega) dd
          have hN := HNEXT.out (HUS.out HLT.out) (by trivial) (by trivial) HDT.out (by trivial)
          rw [hN.2] at hbm7
          have HBM7 := Lib.hid hbm7
          have hB7 : Below w.heap.size w w7 := hB6.grown hgr hB6.size (fun j h => by cases h; exact Nat.le_refl _)
          have HFK7 := Lib.hid hN.1
          clear hgr hbm7 hbm6 hN r0 r1 r2 r3 hlook
          go_wp2
          go_roundw
          case rel => exact ⟨k + 1, by omega, by go_num, HBM7.out, HFK7.out, hB7⟩
          case measure => simp [intOf]; omega
        · rw [ho] at CO
          have HF := Lib.hid (HDN.out hlt)
          clear hlt ho hpc
          (refine wp_region_later (by kernel_rfl) (by kernel_rfl) ?_; (repeat (go_big_quiet_step ((go_at_call 54; exact LaterOf.call _ (CO _))))); refine wpQuiet_nil ?_; intro _ hw1; obtain ⟨lw, hw2⟩ := hw1; subst hw2)
          go_wp2
          go_ret
          exact ⟨by rw [HF.out]; rfl, below_chain hB lw.below hB.size⟩
        · rw [ho] at CO
          have HF := Lib.hid (HDN.out hlt)
          clear hlt ho hpc
          (refine wp_region_later (by kernel_rfl) (by kernel_rfl) ?_; (repeat (go_big_quiet_step ((go_at_call 54; exact LaterOf.call _ (CO _))))); refine wpQuiet_nil ?_; intro _ hw1; obtain ⟨lw, hw2⟩ := hw1; subst hw2)
          go_wp2
          go_ret
          exact ⟨by rw [HF.out]; rfl, below_chain hB lw.below hB.size⟩
    · have h1' : ¬ (k : Int) < (l.length : Int) := by omega
      obtain rfl : k = l.length := by omega
      have CS := pSize10_walk (.slice a l.length c) l wr (HR0.out.below hB) hcnt hs
      have HFIN := Lib.hid (fun h : sizeT l ≤ 65536 => HY.out (HFK.out.end_ (by have := HG.out; omega) h))
      have HNF := Lib.hid (fun h : ¬ sizeT l ≤ 65536 => HN.out (fun hf => h hf.size))
      generalize sizeT l = sz at *
      go_wp2_with (go_at_call 23; refine (CS).mono ?_; rintro e w2 ⟨rfl, hb2⟩)
      go_ret
      refine ⟨?_, below_chain HB.out hb2 HB.out.size⟩
      by_cases hz : sz ≤ 65536
      · rw [HFIN.out hz]; exact congrArg (fun b => Ending.returned (.bool b)) (decide_eq_true (by omega))
      · rw [HNF.out hz]; exact congrArg (fun b => Ending.returned (.bool b)) (decide_eq_false (by omega))
end Go.Proofs.YtnegnjagiejncaaDoor
