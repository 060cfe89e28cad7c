/- The program's keeper: why something can't be put in. -/
import Derived.Test.YtdkmnolljllddaaDoorPT10
import Derived.Test.YtdkmnolljllddaaDoorR10f
import Derived.Test.YtdkmnolljllddaaDoorDir
namespace Go.Proofs.YtdkmnolljllddaaDoor
open Go.RowKit

theorem dirL_le (p : List UInt8) : (dirL p).length ≤ p.length := by
  by_cases h : dirL p = []
  · rw [h]; exact Nat.zero_le _
  · have := dirL_of h
    unfold belowT at this
    simp only [Bool.and_eq_true, decide_eq_true_eq] at this
    exact Nat.le_of_lt this.1
/-- What lies at a path's place: its cells, if it is there. -/
theorem at_cells {w : World} {a : Option Addr} {l : List Itm} {n : List UInt8} (hu : upT (l.map (·.1))) (hx : l = [] ∨ ∃ b o, a = some ⟨b, o, none⟩ ∧ ∀ j x, l[j]? = some x → ∀ i u, (itC x)[i]? = some u → w.cell? ⟨b, o + j * (itC x).length + i, none⟩ = some u) :
    decide (n ∈ l.map (·.1)) = (findT l n).isSome ∧ ((findT l n).isSome = true → posT (l.map (·.1)) n < l.length ∧ ∃ b o, a = some ⟨b, o, none⟩ ∧
      w.cell? ⟨b, o + posT (l.map (·.1)) n * 4 + 1, none⟩ = some (.bool ((findT l n).getD zItm).2.1) ∧ w.cell? ⟨b, o + posT (l.map (·.1)) n * 4 + 3, none⟩ = some (S ((findT l n).getD zItm).2.2.2)) := by
  by_cases hin : n ∈ l.map (·.1)
  · obtain ⟨hk, hf, -⟩ := pos_find hu hin
    rw [hf]
    refine ⟨decide_eq_true hin, fun _ => ⟨hk, ?_⟩⟩
    rcases hx with hx | ⟨b, o, rfl, hx⟩
    · exfalso; rw [hx] at hin; simp at hin
    obtain ⟨hx1, hx2, hx3, hx4⟩ := it_cells hx hk
    exact ⟨b, o, rfl, hx2, hx4⟩
  · rw [pos_none hin]
    exact ⟨decide_eq_false hin, fun h => by cases h⟩

set_option maxHeartbeats 16000000 in
set_option maxRecDepth 100000 in
theorem pwrong_walk (kb : Nat) (v : Value) (l : List Itm) (x : Itm) (w : World) (hkb : w.heap[kb]? = some (.cells #[v] 107 (0, 0))) (hr : ItRow w v l) (hcnt : l.length ≤ 1100000) (hu : upT (l.map (·.1))) (hs : sizeT l ≤ 1000000000) (hM : Mx w) (hpl : ∀ x ∈ l, x.1.length ≤ 1100000) (hx1 : x.1.length ≤ 1100000) (hx4 : x.2.2.2.length ≤ 1100000) :
    Calls Tryd.prog 74 #[.pointer (some ⟨kb, 0, none⟩), ItV x] w fun e w' => e = .returned (.int .i64 (wrongT l x)) ∧ Below w.heap.size w w' := by
  have HWR := Lib.hid (wrongT_by (l := l) (x := x) rfl rfl)
  have HOLD : ((findT l x.1).getD zItm).2.2.2.length ≤ sizeT l := by
    cases hf : findT l x.1 with
    | none => exact Nat.zero_le _
    | some y => have := sizeT_sub (List.singleton_sublist.2 (findT_mem hf).1); simpa [sizeT] using this
  obtain ⟨p, dd, ex, dt⟩ := x
  simp only at hx1 hx4 HOLD HWR
  have HR := Lib.hid hr
  have hdl : (dirL p).length ≤ 1100000 := Nat.le_trans (dirL_le p) hx1
  have CFIT := fun w h => fit_walk p w h hx1
  have CDIR := fun w h => dir_walk p w h hx1
  have CAT1 := fun w h h2 => pat10_walk v l (dirL p) w h hcnt hu h2 hdl hpl
  have CAT2 := fun w h h2 => pat10_walk v l p w h hcnt hu h2 hx1 hpl
  have CS := fun w h => psize10_walk v l w h hcnt (by omega)
  have CODD := fun w => podd10_walk (p, dd, ex, dt) w
  obtain ⟨a, c, rfl, hc, hm, hx⟩ := hr
  obtain ⟨e1, hy1⟩ := at_cells (n := dirL p) hu hx
  obtain ⟨e2, hy2⟩ := at_cells (n := p) hu hx
  rw [e1] at CAT1
  rw [e2] at CAT2
  clear e1 e2 hx hpl hu
  generalize wrongT l (p, dd, ex, dt) = wr at *
  generalize sizeT l = sz at *
  generalize oddT (p, dd, ex, dt) = od at *
  generalize fitB p = fb at *
  generalize posT (l.map (fun x => x.1)) (dirL p) = u1 at *
  generalize posT (l.map (fun x => x.1)) p = u2 at *
  generalize dirL p = d at *
  generalize findT l d = fo at *
  generalize findT l p = fw at *
  generalize hok : fo.isSome = ok at *
  generalize hyv : fo.getD zItm = y at *
  generalize hwas : fw.isSome = was at *
  generalize hov : fw.getD zItm = o at *
  obtain ⟨yp, yd, ye, yt⟩ := y
  obtain ⟨op, odr, oe, ot⟩ := o
  have HNO := Lib.hid (show was = false → ot = [] from fun h => by
    rw [← hwas] at h
    cases fw with
    | none =>
      unfold zItm at hov
      simp only [Option.getD_none, Prod.mk.injEq] at hov
      exact hov.2.2.2.symm
    | some y => cases h)
  clear hok hyv hwas hov fo fw
  simp only at HWR HOLD hy1 hy2
  have HY1 := Lib.hid hy1
  have HY2 := Lib.hid hy2
  clear hy1 hy2
  have hB0 : Below w.heap.size w (w.alloc (.cells #[S p, .bool dd, .bool ex, S dt] 32)) := (Below.refl _ _).alloc (Nat.le_refl _) _
  obtain ⟨w1, hw1, hB1, hr0, r8⟩ : ∃ w1, w1 = w.alloc (.cells #[S p, .bool dd, .bool ex, S dt] 32) ∧ Below w.heap.size w w1 ∧ w1.heap[w.heap.size]? = some (.cells #[S p, .bool dd, .bool ex, S dt] 32 (0, 0)) ∧ w1.cell? ⟨kb, 0, none⟩ = some (.slice a l.length c) :=
    ⟨_, rfl, hB0, heap_alloc_new _ _, cell_below hB0 (heap_cell hkb rfl)⟩
  obtain ⟨⟨r0, r1, r2, r3⟩, -, -⟩ := box4 hr0
  clear hr0 hkb hB0
  go_enter Tryd.func74, Tryd.ntmps74
  go_upto_region 1 with fail
  rw [← hw1]
  clear hw1
  go_wp2_with fail
  refine (CDIR w1 (hM.below hB1)).mono ?_
  rintro e w2 ⟨rfl, hb2⟩
  (replace r0 := cell_below hb2 r0; replace r1 := cell_below hb2 r1; replace r2 := cell_below hb2 r2; replace r3 := cell_below hb2 r3; replace r8 := cell_below hb2 r8; replace hB1 := below_chain hB1 hb2 hB1.size; clear hb2)
  clear CDIR
  go_wp2_with fail
  refine (CAT1 w2 (HR.out.below hB1) (hM.below hB1)).mono ?_
  rintro e w3 ⟨rfl, hb3⟩
  (replace r0 := cell_below hb3 r0; replace r1 := cell_below hb3 r1; replace r2 := cell_below hb3 r2; replace r3 := cell_below hb3 r3; replace r8 := cell_below hb3 r8; replace hB1 := below_chain hB1 hb3 hB1.size; clear hb3)
  clear CAT1
  go_upto_region 3 with fail
  have q0 := LaterOf.cell r0
  have q8 := LaterOf.cell r8
  have CA2 := fun q : LaterOf w3 => CAT2 q.world ((HR.out.below hB1).below q.below) ((hM.below hB1).below q.below)
  (refine wp_region_later (by kernel_rfl) (by kernel_rfl) ?_; (repeat (go_big_quiet_step ((go_at_call 75; exact LaterOf.call _ (CA2 _))))); refine wpQuiet_nil ?_; intro _ hw1; obtain ⟨lw, hw2⟩ := hw1; subst hw2)
  obtain ⟨w4, hw4⟩ : ∃ w4, lw.world = w4 := ⟨_, rfl⟩
  have hb4 := lw.below
  rw [hw4] at hb4 ⊢
  (replace r0 := cell_below hb4 r0; replace r1 := cell_below hb4 r1; replace r2 := cell_below hb4 r2; replace r3 := cell_below hb4 r3; replace r8 := cell_below hb4 r8; replace hB1 := below_chain hB1 hb4 hB1.size; clear hb4)
  clear CA2 CAT2 q0 q8 hw4 lw
  go_upto_region 4 with fail
  have q3 := LaterOf.cell r3
  have q8 := LaterOf.cell r8
  have CSZ := fun q : LaterOf w4 => CS q.world ((HR.out.below hB1).below q.below)
  have hwA : IntKind.i64.wrap ((sz : Int) + (dt.length : Int)) = (sz : Int) + (dt.length : Int) := by rw [IntKind.wrap_i64]; omega
  have hwB : IntKind.i64.wrap ((sz : Int) + (dt.length : Int) - (ot.length : Int)) = (sz : Int) + (dt.length : Int) - (ot.length : Int) := by rw [IntKind.wrap_i64]; omega
  (refine wp_region_later (by kernel_rfl) (by kernel_rfl) ?_; (repeat (go_big_quiet_step ((go_at_call 93; exact LaterOf.call _ (CSZ _))))); refine wpQuiet_nil ?_; intro _ hw1; obtain ⟨lw, hw2⟩ := hw1; subst hw2)
  obtain ⟨w5, hw5⟩ : ∃ w5, lw.world = w5 := ⟨_, rfl⟩
  have hb5 := lw.below
  rw [hw5] at hb5 ⊢
  (replace r0 := cell_below hb5 r0; replace r1 := cell_below hb5 r1; replace r2 := cell_below hb5 r2; replace r3 := cell_below hb5 r3; replace r8 := cell_below hb5 r8; replace hB1 := below_chain hB1 hb5 hB1.size; clear hb5)
  clear CSZ CS q3 q8 hw5 lw
  go_upto_if 43 with fail
  go_cut [10] from 12 (fun s w' => s = .int .i64 ((sz : Int) + (dt.length : Int) - (ot.length : Int)) ∧ w5 = w')
  case first =>
    cases was with
    | false =>
      have hz : ot = [] := HNO.out rfl
      go_wp2
      go_meet
      case rel => exact ⟨by rw [hz]; go_num, rfl⟩
    | true =>
      obtain ⟨h1, b, o, rfl, h2, h3⟩ := HY2.out rfl
      have h1' : (u2 : Int) < (l.length : Int) := by omega
      have h4 := cell_below hB1 h3
      go_wp2
      go_meet
      case rel => exact ⟨rfl, rfl⟩
  case rest =>
  obtain ⟨rfl, rfl⟩ := hcut
  go_wp2_with fail
  refine (CFIT _ (hM.below hB1)).mono ?_
  rintro e w6 ⟨rfl, hb6⟩
  (replace r0 := cell_below hb6 r0; replace r1 := cell_below hb6 r1; replace r2 := cell_below hb6 r2; replace r3 := cell_below hb6 r3; replace r8 := cell_below hb6 r8; replace hB1 := below_chain hB1 hb6 hB1.size; clear hb6)
  clear CFIT
  cases fb with
  | false =>
    have HD := Lib.hid (show wr = 7 by rw [HWR.out]; rfl)
    go_wp2
    go_ret
    exact ⟨by rw [HD.out]; rfl, hB1⟩
  | true =>
  have HW1 := Lib.hid (HWR.out.trans (if_neg (by simp)))
  clear HWR
  go_wp2_with fail
  refine (CODD _).mono ?_
  rintro e w7 ⟨rfl, hb7⟩
  (replace r0 := cell_below hb7 r0; replace r1 := cell_below hb7 r1; replace r2 := cell_below hb7 r2; replace r3 := cell_below hb7 r3; replace r8 := cell_below hb7 r8; replace hB1 := below_chain hB1 hb7 hB1.size; clear hb7)
  clear CODD
  cases od with
  | true =>
    have HD := Lib.hid (show wr = 2 by rw [HW1.out]; rfl)
    go_wp2
    go_ret
    exact ⟨by rw [HD.out]; rfl, hB1⟩
  | false =>
  have HW2 := Lib.hid (HW1.out.trans (if_neg (by simp)))
  clear HW1
  go_upto_region 10 with fail
  go_cut [63] from 12 (fun s w' => s = .bool (!(d == []) && !ok) ∧ w7 = w')
  case first =>
    cases hde : (d == []) with
    | true =>
      go_wp2
      go_meet
      case rel => exact ⟨by rw [hde]; rfl, rfl⟩
    | false =>
      go_wp2
      go_meet
      case rel => exact ⟨by rw [hde]; rfl, rfl⟩
  case rest =>
  obtain ⟨rfl, rfl⟩ := hcut
  cases hc1 : (!(d == []) && !ok) with
  | true =>
    have HD := Lib.hid (show wr = 5 by rw [HW2.out, hc1, if_pos rfl])
    clear hc1
    go_wp2
    go_ret
    exact ⟨by rw [HD.out]; rfl, hB1⟩
  | false =>
  have HW3 := Lib.hid (HW2.out.trans (if_neg (by rw [hc1]; simp)))
  have HC1 := Lib.hid hc1
  clear HW2 hc1
  go_upto_region 11 with fail
  go_cut [70] from 12 (fun s w' => s = .bool (!(d == []) && !yd) ∧ w7 = w')
  case first =>
    cases hde : (d == []) with
    | true =>
      go_wp2
      go_meet
      case rel => exact ⟨by rw [hde]; rfl, rfl⟩
    | false =>
      have hok : ok = true := by have := HC1.out; rw [hde] at this; simpa using this
      obtain ⟨h1, b, o, rfl, h2, h3⟩ := HY1.out hok
      have h1' : (u1 : Int) < (l.length : Int) := by omega
      have h4 := cell_below hB1 h2
      clear hok h2 h3 HC1
      go_wp2
      go_meet
      case rel => exact ⟨by rw [hde]; rfl, rfl⟩
  case rest =>
  obtain ⟨rfl, rfl⟩ := hcut
  cases hc2 : (!(d == []) && !yd) with
  | true =>
    have HD := Lib.hid (show wr = 10 by rw [HW3.out, hc2, Bool.true_or, if_pos rfl])
    clear hc2
    go_wp2
    go_ret
    exact ⟨by rw [HD.out]; rfl, hB1⟩
  | false =>
  have hw := HW3.out
  rw [hc2, Bool.false_or] at hw
  have HW4 := Lib.hid hw
  clear hw
  clear HW3 hc2 HC1
  go_upto_region 12 with fail
  go_cut [84] from 12 (fun s w' => s = .bool (was && !(odr == dd)) ∧ ∃ q : LaterOf w7, q.world = w')
  case first =>
    cases was with
    | false =>
      (refine wp_region_later (by kernel_rfl) (by kernel_rfl) ?_; (repeat (go_big_quiet_step (fail))); refine wpQuiet_nil ?_; intro _ hw1; obtain ⟨lw, hw2⟩ := hw1; subst hw2)
      go_wp2
      go_meet
      case rel => exact ⟨rfl, _, rfl⟩
    | true =>
      obtain ⟨h1, b, o, rfl, h2, h3⟩ := HY2.out rfl
      have h1' : (u2 : Int) < (l.length : Int) := by omega
      have h4 := cell_below hB1 h2
      have q4 := LaterOf.cell h4
      have q1 := LaterOf.cell r1
      have q8 := LaterOf.cell r8
      (refine wp_region_later (by kernel_rfl) (by kernel_rfl) ?_; (repeat (go_big_quiet_step (fail))); refine wpQuiet_nil ?_; intro _ hw1; obtain ⟨lw, hw2⟩ := hw1; subst hw2)
      go_wp2
      go_meet
      case rel => exact ⟨rfl, _, rfl⟩
  case rest =>
  obtain ⟨rfl, lw, rfl⟩ := hcut
  have hb8 := lw.below
  obtain ⟨w8, hw8⟩ : ∃ w8, lw.world = w8 := ⟨_, rfl⟩
  rw [hw8] at hb8 ⊢
  (replace r0 := cell_below hb8 r0; replace r1 := cell_below hb8 r1; replace r2 := cell_below hb8 r2; replace r3 := cell_below hb8 r3; replace r8 := cell_below hb8 r8; replace hB1 := below_chain hB1 hb8 hB1.size; clear hb8)
  clear hw8 lw
  cases hc3 : (was && !(odr == dd)) with
  | true =>
    have HD := Lib.hid (show wr = 10 by rw [HW4.out, hc3, if_pos rfl])
    clear hc3
    go_wp2
    go_ret
    exact ⟨by rw [HD.out]; rfl, hB1⟩
  | false =>
  have hw := HW4.out.trans (if_neg (by rw [hc3]; simp))
  rw [show (sz : Int) - (ot.length : Int) + (dt.length : Int) = (sz : Int) + (dt.length : Int) - (ot.length : Int) by omega] at hw
  have HW5 := Lib.hid hw
  clear hw
  clear HW4 hc3
  go_upto_region 13 with fail
  go_cut [99] from 12 (fun s w' => s = .bool (decide ((32768 : Int) < dt.length) || decide (65536 < (sz : Int) + dt.length - ot.length)) ∧ w8 = w')
  case first =>
    cases g4i : decide ((32768 : Int) < dt.length) with
    | true =>
      go_wp2
      go_meet
      case rel => exact ⟨by rw [g4i]; rfl, rfl⟩
    | false =>
      go_wp2
      go_meet
      case rel => exact ⟨by rw [g4i]; rfl, rfl⟩
  case rest =>
  obtain ⟨rfl, rfl⟩ := hcut
  cases hc4 : (decide ((32768 : Int) < dt.length) || decide (65536 < (sz : Int) + dt.length - ot.length)) with
  | true =>
    have HD := Lib.hid (show wr = 4 by rw [HW5.out, hc4, if_pos rfl])
    clear hc4
    go_wp2
    go_ret
    exact ⟨by rw [HD.out]; rfl, hB1⟩
  | false =>
  have HW6 := Lib.hid (HW5.out.trans (if_neg (by rw [hc4]; simp)))
  clear HW5 hc4
  go_upto_region 14 with fail
  go_cut [108] from 12 (fun s w' => s = .bool (!was && decide ((60 : Int) ≤ l.length)) ∧ w8 = w')
  case first =>
    cases was with
    | true =>
      go_wp2
      go_meet
      case rel => exact ⟨rfl, rfl⟩
    | false =>
      go_wp2
      go_meet
      case rel => exact ⟨rfl, rfl⟩
  case rest =>
  obtain ⟨rfl, rfl⟩ := hcut
  cases hc5 : (!was && decide ((60 : Int) ≤ l.length)) with
  | true =>
    have HD := Lib.hid (show wr = 9 by rw [HW6.out, hc5, if_pos rfl])
    clear hc5
    go_wp2
    go_ret
    exact ⟨by rw [HD.out]; rfl, hB1⟩
  | false =>
    have HD := Lib.hid (show wr = 0 by rw [HW6.out, hc5]; exact if_neg (by simp))
    clear hc5
    go_wp2
    go_ret
    exact ⟨by rw [HD.out]; rfl, hB1⟩
end Go.Proofs.YtdkmnolljllddaaDoor
