/- The reference's Put of trees, walked. -/
import Derived.Test.YtdkmnolljllddaaDoorR10f
namespace Go.Proofs.YtdkmnolljllddaaDoor
open Go.RowKit

set_option maxHeartbeats 16000000 in
set_option maxRecDepth 100000 in
theorem r10put_walk (v : Value) (l : List Itm) (x : Itm) (w : World) (hr : ItRow w v l) (hcnt : l.length ≤ 1100000) (hu : upT (l.map (·.1))) (hs : sizeT l ≤ 1000000000) (hpl : ∀ x ∈ l, x.1.length ≤ 1100000) (hx1 : x.1.length ≤ 1100000) (hx4 : x.2.2.2.length ≤ 1100000) :
    Calls Tryd.prog 51 #[v, ItV x] w fun e w' => ∃ v', e = .returned (.tuple #[v', .int .i64 (putT l x).2]) ∧ ItRow w' v' (putT l x).1 ∧ Below w.heap.size w w' := by
  have HWR := Lib.hid (wrongT_by (l := l) (x := x) rfl rfl)
  have HOLD : ((findT l x.1).getD zItm).2.2.2.length ≤ sizeT l := by
    cases hf : findT l x.1 with
    | none => exact Nat.zero_le _
    | some y => have := sizeT_sub (List.singleton_sublist.2 (findT_mem hf).1); simpa [sizeT] using this
  obtain ⟨p, dd, ex, dt⟩ := x
  simp only at hx1 hx4 HOLD HWR
  have HODD := Lib.hid (show oddT (p, dd, ex, dt) = (dd && (!(dt == []) || ex)) from rfl)
  have HR := Lib.hid hr
  have CW := fun w h => r10with_walk v l (p, dd, ex, dt) w h hcnt hu hpl hx1
  have CFIT := fun w => rfit_walk p w hx1
  have CDIR := fun w => rdir_walk p w hx1
  have CF1 := fun w h => r10find_walk v l (dirL p) w h hcnt
  have CF2 := fun w h => r10find_walk v l p w h hcnt
  have CS := fun w h => r10size_walk v l w h hcnt (by omega)
  unfold findV at CF1 CF2
  have HNO := Lib.hid (fun c (h : wrongT l (p, dd, ex, dt) = c) (hc : c ≠ 0) => putT_wrong h hc)
  have HYES := Lib.hid (fun (h : wrongT l (p, dd, ex, dt) = 0) => putT_ok h)
  generalize putT l (p, dd, ex, dt) = de at *
  generalize wrongT l (p, dd, ex, dt) = wr at *
  generalize sizeT l = sz at *
  generalize oddT (p, dd, ex, dt) = od at *
  generalize fitB p = fb at *
  generalize dirL p = d at *
  generalize findT l d = fo at *
  generalize findT l p = fw at *
  generalize hok : fo.isSome = ok at *
  generalize hyv : fo.getD zItm = y at *
  generalize hwas : fw.isSome = was at *
  generalize hov : fw.getD zItm = o at *
  obtain ⟨yp, yd, ye, yt⟩ := y
  obtain ⟨op, odr, oe, ot⟩ := o
  clear hok hyv hwas hov fo fw hu hpl
  simp only at HWR HOLD
  have HCW := Lib.hid CW
  clear CW
  obtain ⟨a, c, rfl, hc, hm, -⟩ := hr
  obtain ⟨w1, hw1, hB1, hr0, hs1⟩ : ∃ w1, w1 = w.alloc (.cells #[S p, .bool dd, .bool ex, S dt] 32) ∧ Below w.heap.size w w1 ∧ w1.heap[w.heap.size]? = some (.cells #[S p, .bool dd, .bool ex, S dt] 32 (0, 0)) ∧ w1.heap.size = w.heap.size + 1 :=
    ⟨_, rfl, (Below.refl _ _).alloc (Nat.le_refl _) _, heap_alloc_new _ _, World.size_alloc _ _⟩
  obtain ⟨⟨r0, r1, r2, r3⟩, -, -⟩ := box4 hr0
  clear hr0
  go_enter Tryd.func51, Tryd.ntmps51
  go_upto_region 1 with fail
  rw [← hw1]
  clear hw1
  go_wp2_with fail
  refine (CFIT w1).mono ?_
  rintro e w2 ⟨rfl, hb2⟩
  (replace r0 := cell_below hb2 r0; replace r1 := cell_below hb2 r1; replace r2 := cell_below hb2 r2; replace r3 := cell_below hb2 r3; replace hB1 := below_chain hB1 hb2 hB1.size; clear hb2)
  cases fb with
  | false =>
    have HD := Lib.hid (HNO.out 7 (by rw [HWR.out]; rfl) (by decide))
    go_wp2
    go_ret2
    exact ⟨_, by rw [HD.out]; rfl, by rw [HD.out]; exact HR.out.below hB1, hB1⟩
  | true =>
  have HW1 := Lib.hid (HWR.out.trans (if_neg (by simp)))
  clear HWR CFIT
  go_upto_region 3 with fail
  go_cut [26] from 11 (fun s w' => s = .bool od ∧ w2 = w')
  case first =>
    cases dd with
    | false =>
      go_wp2
      go_meet
      case rel => exact ⟨by rw [HODD.out]; rfl, rfl⟩
    | true =>
      cases hdt : (dt == []) with
      | false =>
        go_wp2
        go_meet
        case rel => exact ⟨by rw [HODD.out, hdt]; rfl, rfl⟩
      | true =>
        go_wp2
        go_meet
        case rel => exact ⟨by rw [HODD.out, hdt]; rfl, rfl⟩
  case rest =>
  obtain ⟨rfl, rfl⟩ := hcut
  clear HODD
  cases od with
  | true =>
    have HD := Lib.hid (HNO.out 2 (by rw [HW1.out]; rfl) (by decide))
    go_wp2
    go_ret2
    exact ⟨_, by rw [HD.out]; rfl, by rw [HD.out]; exact HR.out.below hB1, hB1⟩
  | false =>
  have HW2 := Lib.hid (HW1.out.trans (if_neg (by simp)))
  clear HW1
  go_wp2_with fail
  refine (CDIR _).mono ?_
  rintro e w3 ⟨rfl, hb3⟩
  (replace r0 := cell_below hb3 r0; replace r1 := cell_below hb3 r1; replace r2 := cell_below hb3 r2; replace r3 := cell_below hb3 r3; replace hB1 := below_chain hB1 hb3 hB1.size; clear hb3)
  go_wp2_with fail
  refine (CF1 w3 (HR.out.below hB1)).mono ?_
  rintro e w4 ⟨rfl, hb4⟩
  go_upto_region 7 with fail
  obtain ⟨w5, hw5, hb5⟩ : ∃ w5, w5 = w4.alloc (.cells #[S yp, .bool yd, .bool ye, S yt] 32) ∧ Below w3.heap.size w3 w5 := ⟨_, rfl, hb4.alloc hb4.size _⟩
  have cy := cell_new w4 #[S yp, .bool yd, .bool ye, S yt] 32 1 rfl
  rw [← hw5] at cy ⊢
  clear hb4 hw5
  (replace r0 := cell_below hb5 r0; replace r1 := cell_below hb5 r1; replace r2 := cell_below hb5 r2; replace r3 := cell_below hb5 r3; replace hB1 := below_chain hB1 hb5 hB1.size; clear hb5)
  go_cut [42] from 11 (fun s w' => s = .bool (!(d == []) && !ok) ∧ w5 = w')
  case first =>
    cases hde : (d == []) with
    | true =>
      go_wp2
      go_meet
      case rel => exact ⟨by rw [hde]; rfl, rfl⟩
    | false =>
      go_wp2
      go_meet
      case rel => exact ⟨by rw [hde]; rfl, rfl⟩
  case rest =>
  obtain ⟨rfl, rfl⟩ := hcut
  obtain ⟨c1, hc1⟩ : ∃ c1, (!(d == []) && !ok) = c1 := ⟨_, rfl⟩
  rw [hc1] at HW2 ⊢
  clear hc1
  cases c1 with
  | true =>
    have HD := Lib.hid (HNO.out 5 (by rw [HW2.out]; rfl) (by decide))
    go_wp2
    go_ret2
    exact ⟨_, by rw [HD.out]; rfl, by rw [HD.out]; exact HR.out.below hB1, hB1⟩
  | false =>
  have HW3 := Lib.hid (HW2.out.trans (if_neg (by simp)))
  clear HW2
  go_wp2_with fail
  refine (CF2 _ (HR.out.below hB1)).mono ?_
  rintro e w6 ⟨rfl, hb6⟩
  go_upto_region 10 with fail
  obtain ⟨w7, hw7, hb7⟩ : ∃ w7, w7 = w6.alloc (.cells #[S op, .bool odr, .bool oe, S ot] 32) ∧ Below w5.heap.size w5 w7 := ⟨_, rfl, hb6.alloc hb6.size _⟩
  have e1 := cell_new w6 #[S op, .bool odr, .bool oe, S ot] 32 1 rfl
  have e3 := cell_new w6 #[S op, .bool odr, .bool oe, S ot] 32 3 rfl
  rw [← hw7] at e1 e3 ⊢
  clear hb6 hw7
  (replace r0 := cell_below hb7 r0; replace r1 := cell_below hb7 r1; replace r2 := cell_below hb7 r2; replace r3 := cell_below hb7 r3; replace cy := cell_below hb7 cy; replace hB1 := below_chain hB1 hb7 hB1.size; clear hb7)
  go_cut [67] from 11 (fun s w' => s = .bool ((!(d == []) && !yd) || (was && !(odr == dd))) ∧ w7 = w')
  case first =>
    cases hde : (d == []) with
    | true =>
      cases was with
      | false =>
        go_wp2
        go_meet
        case rel => exact ⟨by rw [hde]; rfl, rfl⟩
      | true =>
        go_wp2
        go_meet
        case rel => exact ⟨by rw [hde]; rfl, rfl⟩
    | false =>
      cases yd with
      | false =>
        go_wp2
        go_meet
        case rel => exact ⟨by rw [hde]; rfl, rfl⟩
      | true =>
        cases was with
        | false =>
          go_wp2
          go_meet
          case rel => exact ⟨by rw [hde]; rfl, rfl⟩
        | true =>
          go_wp2
          go_meet
          case rel => exact ⟨by rw [hde]; rfl, rfl⟩
  case rest =>
  obtain ⟨rfl, rfl⟩ := hcut
  obtain ⟨c2, hc2⟩ : ∃ c2, ((!(d == []) && !yd) || (was && !(odr == dd))) = c2 := ⟨_, rfl⟩
  rw [hc2] at HW3 ⊢
  clear hc2
  cases c2 with
  | true =>
    have HD := Lib.hid (HNO.out 10 (by rw [HW3.out]; rfl) (by decide))
    go_wp2
    go_ret2
    exact ⟨_, by rw [HD.out]; rfl, by rw [HD.out]; exact HR.out.below hB1, hB1⟩
  | false =>
  have HW4 := Lib.hid (HW3.out.trans (if_neg (by simp)))
  clear HW3
  go_upto_region 12 with fail
  have CSZ := fun q : LaterOf w7 => CS q.world ((HR.out.below hB1).below q.below)
  have q0 := LaterOf.cell r0
  have q1 := LaterOf.cell r1
  have q2 := LaterOf.cell r2
  have q3 := LaterOf.cell r3
  have u3 := LaterOf.cell e3
  go_cut [85] from 11 (fun s w' => s = .bool (decide ((32768 : Int) < dt.length) || decide (65536 < (sz : Int) - ot.length + dt.length)) ∧ ∃ q : LaterOf w7, q.world = w')
  case first =>
    cases g4i : decide ((32768 : Int) < dt.length) with
    | true =>
      (refine wp_region_later (by kernel_rfl) (by kernel_rfl) ?_; (repeat (go_big_quiet_step ((go_at_call 26; exact LaterOf.call _ (CSZ _))))); refine wpQuiet_nil ?_; intro _ hw1; obtain ⟨lw, hw2⟩ := hw1; subst hw2)
      go_wp2
      go_meet
      case rel => exact ⟨by rw [g4i]; rfl, _, rfl⟩
    | false =>
      have hwA : IntKind.i64.wrap ((sz : Int) - (ot.length : Int)) = (sz : Int) - (ot.length : Int) := by rw [IntKind.wrap_i64]; omega
      have hwB : IntKind.i64.wrap ((sz : Int) - (ot.length : Int) + (dt.length : Int)) = (sz : Int) - (ot.length : Int) + (dt.length : Int) := by rw [IntKind.wrap_i64]; omega
      (refine wp_region_later (by kernel_rfl) (by kernel_rfl) ?_; (repeat (go_big_quiet_step ((go_at_call 26; exact LaterOf.call _ (CSZ _))))); refine wpQuiet_nil ?_; intro _ hw1; obtain ⟨lw, hw2⟩ := hw1; subst hw2)
      go_wp2
      go_meet
      case rel => exact ⟨by rw [g4i]; rfl, _, rfl⟩
  case rest =>
  obtain ⟨rfl, lw, rfl⟩ := hcut
  have x0 := q0 lw
  have x1 := q1 lw
  have x2 := q2 lw
  have x3 := q3 lw
  have hB8 := below_chain hB1 lw.below hB1.size
  clear q0 q1 q2 q3 u3 CSZ r0 r1 r2 r3 e1 e3 cy
  obtain ⟨c3, hc3⟩ : ∃ c3, (decide ((32768 : Int) < dt.length) || decide (65536 < (sz : Int) - ot.length + dt.length)) = c3 := ⟨_, rfl⟩
  rw [hc3] at HW4 ⊢
  clear hc3
  cases c3 with
  | true =>
    have HD := Lib.hid (HNO.out 4 (by rw [HW4.out]; rfl) (by decide))
    go_wp2
    go_ret2
    exact ⟨_, by rw [HD.out]; rfl, by rw [HD.out]; exact HR.out.below hB8, hB8⟩
  | false =>
  have HW5 := Lib.hid (HW4.out.trans (if_neg (by simp)))
  clear HW4
  go_upto_region 14 with fail
  go_cut [93] from 11 (fun s w' => s = .bool (!was && decide ((60 : Int) ≤ l.length)) ∧ lw.world = w')
  case first =>
    cases was with
    | true =>
      go_wp2
      go_meet
      case rel => exact ⟨rfl, rfl⟩
    | false =>
      go_wp2
      go_meet
      case rel => exact ⟨rfl, rfl⟩
  case rest =>
  obtain ⟨rfl, rfl⟩ := hcut
  obtain ⟨c4, hc4⟩ : ∃ c4, (!was && decide ((60 : Int) ≤ l.length)) = c4 := ⟨_, rfl⟩
  rw [hc4] at HW5 ⊢
  clear hc4
  cases c4 with
  | true =>
    have HD := Lib.hid (HNO.out 9 (by rw [HW5.out]; rfl) (by decide))
    go_wp2
    go_ret2
    exact ⟨_, by rw [HD.out]; rfl, by rw [HD.out]; exact HR.out.below hB8, hB8⟩
  | false =>
  have HD := Lib.hid (HYES.out (by rw [HW5.out]; rfl))
  clear HW5
  go_wp2_with fail
  refine (HCW.out lw.world (HR.out.below hB8)).mono ?_
  rintro e w9 ⟨v', rfl, hrow, hb9⟩
  go_wp2
  go_ret2
  exact ⟨_, by rw [HD.out]; rfl, by rw [HD.out]; exact hrow, below_chain hB8 hb9 hB8.size⟩
end Go.Proofs.YtdkmnolljllddaaDoor
