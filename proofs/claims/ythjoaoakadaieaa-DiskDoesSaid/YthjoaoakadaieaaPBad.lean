/- The program's look at a file that is none. -/
import Derived.Test.YthjoaoakadaieaaRFit15b
import Derived.Test.YthjoaoakadaieaaIdxOp
import Derived.Test.YthjoaoakadaieaaIdxDF
import Derived.Test.YthjoaoakadaieaaAny
namespace Go.Proofs.Ythjoaoakadaieaa
open Go.RowKit

set_option maxHeartbeats 2000000 in
set_option maxRecDepth 100000 in
theorem badop_walk (o : Opn) (w : World) (hl : o.2.length ≤ 1000000) :
    Calls Try.prog 82 #[OpV o] w fun e w' => e = .returned (.bool (badO o)) ∧ Below w.heap.size w w' := by
  obtain ⟨p, q⟩ := o
  simp only at hl
  have HE := Lib.hid (show badO (p, q) = (decide (p < 0) || (decide (262144 < p) || (q.isEmpty || decide ((262144 : Int) - p < q.length)))) from rfl)
  have hb0 : Below w.heap.size w (w.alloc (.cells #[.int .i64 p, S q] 69)) := (Below.refl _ _).alloc (Nat.le_refl _) _
  generalize badO (p, q) = bo at *
  by_cases g1 : p < 0
  · have HX1 := Lib.hid (show bo = true by rw [HE.out]; simp [g1])
    go_enter Try.func82, Try.ntmps82
    go_wp2
    go_ret
    exact ⟨by rw [HX1.out]; rfl, hb0⟩
  by_cases g2 : 262144 < p
  · have HX1 := Lib.hid (show bo = true by rw [HE.out]; simp [g2])
    go_enter Try.func82, Try.ntmps82
    go_wp2
    go_ret
    exact ⟨by rw [HX1.out]; rfl, hb0⟩
  by_cases g3 : q.isEmpty = true
  · have HX1 := Lib.hid (show bo = true by rw [HE.out]; simp [g3])
    go_enter Try.func82, Try.ntmps82
    go_wp2
    go_ret
    exact ⟨by rw [HX1.out]; rfl, hb0⟩
  have g3 : q.isEmpty = false := by simpa using g3
  have hwr : IntKind.i64.wrap (262144 - p) = 262144 - p := by rw [IntKind.wrap_i64]; omega
  by_cases g4 : (262144 : Int) - p < q.length
  · have HX1 := Lib.hid (show bo = true by rw [HE.out]; simp [g4])
    go_enter Try.func82, Try.ntmps82
    go_wp2
    go_ret
    exact ⟨by rw [HX1.out]; rfl, hb0⟩
  · have HX1 := Lib.hid (show bo = false by rw [HE.out]; simp [g1, g2, g3, g4])
    go_enter Try.func82, Try.ntmps82
    go_wp2
    go_ret
    exact ⟨by rw [HX1.out]; rfl, hb0⟩

set_option maxHeartbeats 2000000 in
set_option maxRecDepth 100000 in
theorem badfile_walk (x : DF) (w : World) (hr : OpRow w x.ov x.ops) (hs : Short x) :
    Calls Try.prog 57 #[DFV x] w fun e w' => e = .returned (.bool (badF x.lo)) ∧ Below w.heap.size w w' := by
  obtain ⟨nm, dt, ov, os⟩ := x
  obtain ⟨hn, hd, ho, hol⟩ := hs
  have HF := Lib.hid (show badF (DF.lo ⟨nm, dt, ov, os⟩) = (!nameB nm || (decide (200 < os.length) || (decide (262144 < dt.length) || os.any badO))) from rfl)
  simp only at hr hn hd ho hol
  generalize badF (DF.lo ⟨nm, dt, ov, os⟩) = bf at *
  have CN := fun w => name_walk nm w hn
  have hb0 : Below w.heap.size w (w.alloc (.cells #[S nm, S dt, ov] 50)) := (Below.refl _ _).alloc (Nat.le_refl _) _
  have hd0 := cell_new w #[S nm, S dt, ov] 50 0 rfl
  have hd1 := cell_new w #[S nm, S dt, ov] 50 1 rfl
  have hd2 := cell_new w #[S nm, S dt, ov] 50 2 rfl
  have HR0 := Lib.hid (fun (W : World) (h : Below w.heap.size w W) => hr.below h)
  have CH := fun (W : World) (h : OpRow W ov os) => hasOp_walk 82 #[] badO ov os W h ho (enters_of Try.func82 (by kernel_rfl) rfl) (fun x hx w' _ => badop_walk x w' (hol x hx))
  have HCH := Lib.hid CH
  clear CH hol
  obtain ⟨nb, hnb⟩ : ∃ nb, nameB nm = nb := ⟨_, rfl⟩
  rw [hnb] at CN HF
  clear hnb
  obtain ⟨a, c, rfl, hc, hm, hx⟩ := hr
  clear hx
  cases nb with
  | false =>
    have HR := Lib.hid (show bf = true by rw [HF.out]; rfl)
    go_enter Try.func57, Try.ntmps57
    go_wp2_with (go_at_call 46; refine (CN _).mono ?_; rintro e w1 ⟨rfl, hb1⟩)
    go_ret
    exact ⟨by rw [HR.out]; rfl, below_chain hb0 hb1 (by simp)⟩
  | true =>
    by_cases h1 : 200 < os.length
    · have h1' : (200 : Int) < (os.length : Int) := by omega
      have HR := Lib.hid (show bf = true by rw [HF.out]; simp [h1])
      go_enter Try.func57, Try.ntmps57
      go_wp2_with (go_at_call 46; refine (CN _).mono ?_; rintro e w1 ⟨rfl, hb1⟩; have q0 := cell_below hb1 hd0; have q1 := cell_below hb1 hd1; have q2 := cell_below hb1 hd2)
      go_ret
      exact ⟨by rw [HR.out]; rfl, below_chain hb0 hb1 (by simp)⟩
    have h1' : ¬ (200 : Int) < (os.length : Int) := by omega
    by_cases h2 : 262144 < dt.length
    · have h2' : (262144 : Int) < (dt.length : Int) := by omega
      have HR := Lib.hid (show bf = true by rw [HF.out]; simp [h2])
      go_enter Try.func57, Try.ntmps57
      go_wp2_with (go_at_call 46; refine (CN _).mono ?_; rintro e w1 ⟨rfl, hb1⟩; have q0 := cell_below hb1 hd0; have q1 := cell_below hb1 hd1; have q2 := cell_below hb1 hd2)
      go_ret
      exact ⟨by rw [HR.out]; rfl, below_chain hb0 hb1 (by simp)⟩
    have h2' : ¬ (262144 : Int) < (dt.length : Int) := by omega
    have HR := Lib.hid (show bf = os.any badO by rw [HF.out]; simp [h1, h2])
    clear HF h1 h2
    generalize os.any badO = ab at *
    go_enter Try.func57, Try.ntmps57
    go_wp2_with fail
    refine (CN _).mono ?_
    rintro e w1 ⟨rfl, hb1⟩
    have q0 := cell_below hb1 hd0
    have q1 := cell_below hb1 hd1
    have q2 := cell_below hb1 hd2
    have hB1 := below_chain hb0 hb1 (by simp)
    go_wp2_with fail
    refine (HCH.out _ (HR0.out _ hB1)).mono ?_
    rintro e w2 ⟨rfl, hb2⟩
    go_wp2
    go_ret
    exact ⟨by rw [HR.out]; show Ending.returned (.bool (decide ((200 : Int) < os.length) || decide ((262144 : Int) < dt.length) || ab)) = _; rw [decide_eq_false (by omega), decide_eq_false (by omega)]; rfl, below_chain hB1 hb2 hB1.size⟩

set_option maxHeartbeats 4000000 in
set_option maxRecDepth 100000 in
theorem pfit15_walk (v : Value) (off : Bool) (fuse : Int) (l : List DF) (w : World) (hr : FilesR w v l) (hcnt : l.length ≤ 1000000) (hs : ∀ x ∈ l, Short x) :
    Calls Try.prog 28 #[DiskV v off fuse] w fun e w' => e = .returned (.bool (fitD (los l, off, fuse))) ∧ Below w.heap.size w w' := by
  have hops := hr.2
  have hrow := hr.1
  have HASH := Lib.hid (fun (W : World) (h : Below w.heap.size w W) => hasDF_walk 57 #[] (fun x => badF x.lo) v l W (hrow.below h) hcnt (enters_of Try.func57 (by kernel_rfl) rfl) (fun x hx w' hb => badfile_walk x w' ((hops x hx).below (below_chain h hb h.size)) (hs x hx)))
  obtain ⟨⟨a, c, rfl, hc, hm, hx⟩, _⟩ := hr
  have HX := Lib.hid hx
  clear hx hops hs hrow
  have hb0 : Below w.heap.size w (w.alloc (.cells #[.slice a l.length c, .bool off, .int .i64 fuse] 35)) := (Below.refl _ _).alloc (Nat.le_refl _) _
  have HH := Lib.hid (fun h => fitD_head (l := l) (off := off) (fuse := fuse) h)
  have HHE := Lib.hid (show headBad l.length off fuse = (decide (8 < l.length) || (decide (fuse < -1) || (decide (1048576 < fuse) || (off && fuse != -1)))) from rfl)
  have HDW := Lib.hid (fun (k : Nat) (h : k + 1 < l.length) => fitD_down (off := off) (fuse := fuse) h)
  have HG := Lib.hid (fun h1 h2 => fitD_any (l := l) (off := off) (fuse := fuse) h1 h2)
  generalize fitD (los l, off, fuse) = res at *
  generalize headBad l.length off fuse = hbad at *
  by_cases g1 : 8 < l.length
  · have g1' : (8 : Int) < (l.length : Int) := by omega
    have HR := Lib.hid (HH.out (by rw [HHE.out]; simp [g1]))
    go_enter Try.func28, Try.ntmps28
    go_wp2
    go_ret
    exact ⟨by rw [HR.out]; rfl, hb0⟩
  have g1' : ¬ (8 : Int) < (l.length : Int) := by omega
  by_cases g2 : fuse < -1
  · have HR := Lib.hid (HH.out (by rw [HHE.out]; simp [g2]))
    go_enter Try.func28, Try.ntmps28
    go_wp2
    go_ret
    exact ⟨by rw [HR.out]; rfl, hb0⟩
  by_cases g3 : 1048576 < fuse
  · have HR := Lib.hid (HH.out (by rw [HHE.out]; simp [g3]))
    go_enter Try.func28, Try.ntmps28
    go_wp2
    go_ret
    exact ⟨by rw [HR.out]; rfl, hb0⟩
  have hcase : (off = false ∧ hbad = false) ∨ (off = true ∧ ¬ 0 ≤ fuse ∧ hbad = false) ∨ (off = true ∧ 0 ≤ fuse ∧ res = false) := by
    cases off
    · exact .inl ⟨rfl, by rw [HHE.out]; simp [g1, g2, g3]⟩
    · by_cases h : 0 ≤ fuse
      · have e : (fuse != -1) = true := by rw [bne_iff_ne]; omega
        exact .inr (.inr ⟨rfl, h, HH.out (by rw [HHE.out, e]; simp)⟩)
      · have e : (fuse != -1) = false := by rw [bne_eq_false_iff_eq]; omega
        exact .inr (.inl ⟨rfl, h, by rw [HHE.out, e]; simp [g1, g2, g3]⟩)
  clear HHE HH
  rcases hcase with ⟨rfl, hhb⟩ | ⟨rfl, g5, hhb⟩ | ⟨rfl, g5, hres⟩
  rotate_left 2
  · have HR := Lib.hid hres
    clear hres
    go_enter Try.func28, Try.ntmps28
    go_wp2
    go_ret
    exact ⟨by rw [HR.out]; rfl, hb0⟩
  all_goals
    have HHB := Lib.hid hhb
    clear hhb
    obtain ⟨w0, hw0, hb0⟩ : ∃ w0, w0 = _ ∧ Below w.heap.size w w0 := ⟨_, rfl, hb0⟩
    have hd0 : w0.cell? ⟨w.heap.size, 0, none⟩ = some (.slice a l.length c) := by rw [hw0]; exact cell_new w _ _ 0 rfl
    have HHAS := Lib.hid HASH.out
    go_enter Try.func28, Try.ntmps28
    go_wp2_with fail
    rw [← hw0]
    clear hw0
    go_wp2
    go_loopw [3] (fun i wr => ∃ k : Nat, 1 ≤ k ∧ (l.length < k → k = 1) ∧ i = .int .i64 k ∧ upN ((l.take k).map DF.name) = true ∧ Below w0.heap.size w0 wr) (fun i _ => l.length - (intOf i).toNat)
    case atStart => exact ⟨1, Nat.le_refl _, fun _ => rfl, rfl, upN_one l, Below.refl _ _⟩
    case round =>
      obtain ⟨k, hk, hk2, rfl, hu, hB⟩ := hrel
      have HU := Lib.hid hu
      have hcd := cell_below hB hd0
      have hBW := below_chain hb0 hB hb0.size
      have HB := Lib.hid hBW
      have HB0 := Lib.hid hB
      clear hu
      by_cases h1 : k < l.length
      · have h1' : (k : Int) < (l.length : Int) := by omega
        have hx := HX.out
        rcases hx with hx | ⟨b, o, rfl, hx⟩
        · exfalso; rw [hx] at h1; simp at h1
        obtain ⟨j, rfl⟩ : ∃ j, k = j + 1 := ⟨k - 1, by omega⟩
        have hj : j < l.length := by omega
        have hc1 := cell_below hBW (df_cells hx h1).1
        have hc4 := cell_below hBW (df_cells hx hj).1
        have HDWN := Lib.hid (fun h => HDW.out j h1 h)
        have HUS := Lib.hid (upN_names h1)
        have hwr : IntKind.i64.wrap (j : Int) = (j : Int) := by rw [IntKind.wrap_i64]; omega
        have hj' : (j : Int) < (l.length : Int) := by omega
        clear hx hB hBW hk2 HHAS
        generalize l[j + 1] = y at *
        generalize l[j] = y0 at *
        obtain ⟨nm, dt, ov, os⟩ := y
        obtain ⟨nm0, dt0, ov0, os0⟩ := y0
        simp only at hc1 hc4 HUS HDWN
        have hcase : (nm0 < nm ∧ Op.bytesLess nm0 nm = true) ∨ (¬ nm0 < nm ∧ Op.bytesLess nm0 nm = false) := by
          rw [bytesLess_eq]
          by_cases h : nm0 < nm
          · exact .inl ⟨h, by simpa using h⟩
          · exact .inr ⟨h, by simpa using h⟩
        rcases hcase with ⟨hlt, hbl⟩ | ⟨hlt, hbl⟩
        · have HU2 := Lib.hid (show upN ((l.take (j + 2)).map DF.name) = true by rw [HUS.out, HU.out]; simp [hlt])
          clear hlt
          go_wp2
          go_quiet (fail)
          go_wp2
          go_roundw
          case rel => exact ⟨j + 2, by omega, by omega, by go_num, HU2.out, belowN HB0.out _⟩
          case measure => simp [intOf]; omega
        · have HF := Lib.hid (HDWN.out hlt)
          clear hlt
          go_wp2
          go_quiet (fail)
          go_wp2
          go_ret
          exact ⟨by rw [HF.out]; rfl, belowN HB.out _⟩
      · have h1' : ¬ (k : Int) < (l.length : Int) := by omega
        have CH := HHAS.out wr hBW
        have HF := Lib.hid (show res = !(l.any fun x => badF x.lo) by
          have e2 := HU.out
          rw [List.take_of_length_le (by omega)] at e2
          exact HG.out HHB.out e2)
        generalize (l.any fun x => badF x.lo) = ab at *
        clear hk2
        go_wp2_with (go_at_call 56; refine (CH).mono ?_; rintro e w1 ⟨rfl, hb1⟩)
        go_ret
        exact ⟨by rw [HF.out]; rfl, below_chain HB.out hb1 HB.out.size⟩
end Go.Proofs.Ythjoaoakadaieaa
