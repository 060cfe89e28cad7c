/- GcDoes: which collections can be, which are the same; collections that begin, that are told of a key, that go on. -/
import Derived.Test.YtengciicdnkgaaaGreatDoorJRS
import Derived.Test.YtengciicdnkgaaaGreatDoorJRF
import Derived.Test.YtengciicdnkgaaaGreatDoorJPF
import Derived.Test.YtengciicdnkgaaaGreatDoorSame20
import Derived.Test.YtengciicdnkgaaaGreatDoorAwake20
import Derived.Test.YtengciicdnkgaaaGreatDoorJGcP
import Derived.Test.YtengciicdnkgaaaGreatDoorJTail
namespace Go.Proofs.YtengciicdnkgaaaGreatDoor
open Go.RowKit

abbrev GC0 : Obj := GCells false (.slice none 0 0) (.slice none 0 0)
/-- A collection in block b. -/
def GB (w : World) (b : Nat) (on : Bool) (s : QM) : Prop := ∃ qa qc ma mc, w.heap[b]? = some (GCells on (.slice qa s.1.length qc) (.slice ma s.2.length mc)) ∧ StrRow w (.slice qa s.1.length qc) s.1 ∧ StrRow w (.slice ma s.2.length mc) s.2
theorem GB.below {w w' : World} {b : Nat} {on : Bool} {s : QM} (h : GB w b on s) (hB : Below w.heap.size w w') : GB w' b on s := by
  obtain ⟨qa, qc, ma, mc, h1, h2, h3⟩ := h
  exact ⟨qa, qc, ma, mc, keptG hB h1, h2.below hB, h3.below hB⟩
def set3 (w : World) (b : Nat) (x y z : Value) : World := ((w.setCell ⟨b, 0, none⟩ x).setCell ⟨b, 1, none⟩ y).setCell ⟨b, 2, none⟩ z
theorem set3_row {w : World} {b : Nat} {x y z v : Value} {l : List (List UInt8)} (h : w.heap[b]? = some GC0) (hr : StrRow w v l) : StrRow (set3 w b x y z) v l := (((RowN.of_boxG hr h).set).set).set.row
theorem set3_other {w : World} {b b' : Nat} {x y z : Value} {o : Obj} (hne : b' ≠ b) (h : w.heap[b']? = some o) : (set3 w b x y z).heap[b']? = some o :=
  (Below.heap_setCell _ _ _ _ hne).trans ((Below.heap_setCell _ _ _ _ hne).trans ((Below.heap_setCell _ _ _ _ hne).trans h))
theorem set3_below {B : Nat} {w0 w : World} {b : Nat} {x y z : Value} (h : Below B w0 w) (hb : B ≤ b) : Below B w0 (set3 w b x y z) := below_setC (below_setC (below_setC h hb 0 x) hb 1 y) hb 2 z
theorem set3_new {w : World} {b : Nat} {on : Bool} {y z : Value} (h : w.heap[b]? = some GC0) : (set3 w b (.bool on) y z).heap[b]? = some (GCells on y z) := by
  unfold set3
  simpa using heap_set_cell (o := 2) (heap_set_cell (o := 1) (heap_set_cell (o := 0) h (.bool on)) y) z
/-- What stands behind both stores. -/
theorem both_stored {w7 W : World} {b1 b2 : Nat} {on : Bool} {s t : QM} {qa ma qa2 ma2 : Option Addr} {qc mc qc2 mc2 : Nat} (h1 : W.heap[b1]? = some GC0) (h2 : W.heap[b2]? = some GC0) (hne : b1 ≠ b2)
    (hq : StrRow W (.slice qa s.1.length qc) s.1) (hm : StrRow W (.slice ma s.2.length mc) s.2) (hq2 : StrRow W (.slice qa2 t.1.length qc2) t.1) (hm2 : StrRow W (.slice ma2 t.2.length mc2) t.2) (hB : Below w7.heap.size w7 W) (hb1 : w7.heap.size ≤ b1) (hb2 : w7.heap.size ≤ b2) :
    (set3 W b1 (.bool on) (.slice qa s.1.length qc) (.slice ma s.2.length mc)).heap[b2]? = some GC0 ∧ Below w7.heap.size w7 (set3 W b1 (.bool on) (.slice qa s.1.length qc) (.slice ma s.2.length mc)) ∧
    (∃ W2, W2 = set3 (set3 W b1 (.bool on) (.slice qa s.1.length qc) (.slice ma s.2.length mc)) b2 (.bool on) (.slice qa2 t.1.length qc2) (.slice ma2 t.2.length mc2) ∧ Below w7.heap.size w7 W2 ∧ GB W2 b1 on s ∧ GB W2 b2 on t) := by
  have e2 : (set3 W b1 (.bool on) (.slice qa s.1.length qc) (.slice ma s.2.length mc)).heap[b2]? = some GC0 := set3_other (fun e => hne e.symm) h2
  have hB1 := set3_below (x := .bool on) (y := .slice qa s.1.length qc) (z := .slice ma s.2.length mc) hB hb1
  refine ⟨e2, hB1, _, rfl, set3_below hB1 hb2, ⟨qa, qc, ma, mc, set3_other hne (set3_new h1), set3_row e2 (set3_row h1 hq), set3_row e2 (set3_row h1 hm)⟩, ⟨qa2, qc2, ma2, mc2, set3_new e2, set3_row e2 (set3_row h1 hq2), set3_row e2 (set3_row h1 hm2)⟩⟩
section
variable {P : Program} {ops : Array Oper} {md : Region.Mode} {Q : Exit → Act → World → Prop} {S : World → Prop}
theorem wpAnyH_three {i j k : Nat} {o o' o'' : Oper} {fuel : Nat} {listed : Array Bool} {a : Act} {w : World} (hr : Region.ready md ops listed = [i, j, k]) (ho : ops[i]? = some o) (ho' : ops[j]? = some o') (ho'' : ops[k]? = some o'')
    (h : ∀ K' : Act → World → Prop, (∀ a w, S w → wpAnyH P md ops Q S fuel (listed.setIfInBounds i true) a w → K' a w) → if Region.wanted o (yielded ops a.tmps) = true then Oper.wp P o a w K' Q else K' (a.put o.dst undef) w)
    (h' : ∀ K' : Act → World → Prop, (∀ a w, S w → wpAnyH P md ops Q S fuel (listed.setIfInBounds j true) a w → K' a w) → if Region.wanted o' (yielded ops a.tmps) = true then Oper.wp P o' a w K' Q else K' (a.put o'.dst undef) w)
    (h'' : ∀ K' : Act → World → Prop, (∀ a w, S w → wpAnyH P md ops Q S fuel (listed.setIfInBounds k true) a w → K' a w) → if Region.wanted o'' (yielded ops a.tmps) = true then Oper.wp P o'' a w K' Q else K' (a.put o''.dst undef) w) :
    wpAnyH P md ops Q S (fuel + 1) listed a w :=
  wpAnyH_all hr (by simp) fun x hx => by
    rcases List.mem_cons.1 hx with rfl | hx
    · exact wpOp_step ho fun K' hK => h K' fun a w h1 h2 => hK a w ⟨h1, h2⟩
    · rcases List.mem_cons.1 hx with rfl | hx
      · exact wpOp_step ho' fun K' hK => h' K' fun a w h1 h2 => hK a w ⟨h1, h2⟩
      · obtain rfl := List.mem_singleton.1 hx
        exact wpOp_step ho'' fun K' hK => h'' K' fun a w h1 h2 => hK a w ⟨h1, h2⟩
end

set_option maxHeartbeats 16000000 in
set_option maxRecDepth 100000 in
theorem gdoes20_walk (on on2 : Bool) (qv mv qv2 mv2 ov rv : Value) (q m q2 m2 : List (List UInt8)) (o : List Snp) (roots : List (List UInt8)) (key : List UInt8) (z : Int) (w : World) (hq : StrRow w qv q) (hm : StrRow w mv m) (hq2 : StrRow w qv2 q2) (hm2 : StrRow w mv2 m2) (ho : SnpRow w ov o) (hr : StrRow w rv roots) (hT : ErrT w)
    (hqb : q.length ≤ 140737488355328) (hmb : m.length ≤ 140737488355328) (hqb2 : q2.length ≤ 140737488355328) (hmb2 : m2.length ≤ 140737488355328) (hob : o.length ≤ 140737488355328) (hor : ∀ x ∈ o, x.2.length ≤ 140737488355328) :
    Calls Tryz.prog 5 #[GcV on qv mv, GcV on2 qv2 mv2, ov, rv, S key, .int .i64 z] w fun e w' => e = .returned (.bool true) ∧ Below w.heap.size w w' := by
  have HQ := Lib.hid hq
  have HM := Lib.hid hm
  have HQ2 := Lib.hid hq2
  have HM2 := Lib.hid hm2
  have HO := Lib.hid ho
  have HR := Lib.hid hr
  have HT := Lib.hid hT
  obtain ⟨qa, qc, rfl, _⟩ := hq
  obtain ⟨ma, mc, rfl, _⟩ := hm
  obtain ⟨qa2, qc2, rfl, _⟩ := hq2
  obtain ⟨ma2, mc2, rfl, _⟩ := hm2
  obtain ⟨ra, rc, rfl, hrc, hrm, _⟩ := hr
  obtain ⟨w1, hw1, HB1, hg1, hh1⟩ : ∃ w1, w1 = (w.alloc (GCells on (.slice qa q.length qc) (.slice ma m.length mc))).alloc (GCells on2 (.slice qa2 q2.length qc2) (.slice ma2 m2.length mc2)) ∧ Hid (Below w.heap.size w w1) ∧ w1.heap[w.heap.size]? = some (GCells on (.slice qa q.length qc) (.slice ma m.length mc)) ∧ w1.heap[w.heap.size + 1]? = some (GCells on2 (.slice qa2 q2.length qc2) (.slice ma2 m2.length mc2)) :=
    ⟨_, rfl, ((Below.refl _ _).alloc (Nat.le_refl _) _).alloc (by simp) _, heap_old (heap_alloc_new w _), heap_new' (by simp) _⟩
  have C0 := small20_walk ov o w1 (ho.below HB1.out) hob hor
  have hwr1 : IntKind.i64.wrap ((q.length : Int) + (m.length : Int)) = (q.length : Int) + (m.length : Int) := by rw [IntKind.wrap_i64]; omega
  have hwr2 : IntKind.i64.wrap ((q.length : Int) + (m.length : Int) + (q2.length : Int)) = (q.length : Int) + (m.length : Int) + (q2.length : Int) := by rw [IntKind.wrap_i64]; omega
  have hwr3 : IntKind.i64.wrap ((q.length : Int) + (m.length : Int) + (q2.length : Int) + (m2.length : Int)) = (q.length : Int) + (m.length : Int) + (q2.length : Int) + (m2.length : Int) := by rw [IntKind.wrap_i64]; omega
  have HG1 := Lib.hid hg1
  have HH1 := Lib.hid hh1
  clear ho hT hor hg1 hh1
  go_enter Tryz.func5, Tryz.ntmps5
  go_upto_region 1 with fail
  rw [← hw1]
  clear hw1
  go_cut [42] from 17 (fun t w' => ∃ w2 b, w2 = w' ∧ t = .bool b ∧ (b = false → SmallO o ∧ roots.length ≤ 60 ∧ q.length + m.length + q2.length + m2.length ≤ 200) ∧ Below w1.heap.size w1 w2)
  case first =>
    go_wp2_with fail
    refine C0.mono ?_
    rintro e w2 ⟨b0, rfl, hsm, hb2⟩
    have HSM := Lib.hid hsm
    have hg2 := keptG hb2 HG1.out
    have hh2 := keptG hb2 HH1.out
    obtain ⟨y0, y1, y2⟩ := gcells hg2
    obtain ⟨z0, z1, z2⟩ := gcells hh2
    clear C0 hsm
    cases b0 with
    | false =>
      go_wp2
      go_meet
      case rel => exact ⟨_, true, rfl, rfl, (fun h => by cases h), hb2⟩
    | true =>
      by_cases g1 : 60 < roots.length
      · have g1' : (60 : Int) < (roots.length : Int) := by omega
        clear g1
        go_wp2
        go_meet
        case rel => exact ⟨_, true, rfl, rfl, (fun h => by cases h), hb2⟩
      · have g1' : ¬ (60 : Int) < (roots.length : Int) := by omega
        by_cases g2 : 200 < q.length + m.length + q2.length + m2.length
        · have g2' : (200 : Int) < (q.length : Int) + (m.length : Int) + (q2.length : Int) + (m2.length : Int) := by omega
          clear g1 g2
          go_wp2
          go_meet
          case rel => exact ⟨_, true, rfl, rfl, (fun h => by cases h), hb2⟩
        · have g2' : ¬ (200 : Int) < (q.length : Int) + (m.length : Int) + (q2.length : Int) + (m2.length : Int) := by omega
          have HF := Lib.hid (show SmallO o ∧ roots.length ≤ 60 ∧ q.length + m.length + q2.length + m2.length ≤ 200 from ⟨HSM.out rfl, by omega, by omega⟩)
          clear g1 g2
          go_wp2
          go_meet
          case rel => exact ⟨_, false, rfl, by rw [decide_eq_false (p := (60 : Int) < (roots.length : Int)) (by omega), decide_eq_false (p := (200 : Int) < (q.length : Int) + (m.length : Int) + (q2.length : Int) + (m2.length : Int)) (by omega)]; rfl, fun _ => HF.out, hb2⟩
  case rest =>
  obtain ⟨w2, b0, rfl, rfl, hsm, hb2⟩ := hcut
  have HB2 := Lib.hid (HB1.out.trans (hb2.mono HB1.out.size))
  cases b0 with
  | true => (have CA := awake20_walk w2; go_wp2_with fail; refine CA.mono ?_; rintro e wy ⟨rfl, hby⟩; have hBy := below_chain HB2.out hby (Below.size HB2.out); go_wp2; go_ret; exact ⟨rfl, hBy⟩)
  | false =>
  have HSM := Lib.hid (hsm rfl)
  have HG2 := Lib.hid (keptG hb2 HG1.out)
  have HH2 := Lib.hid (keptG hb2 HH1.out)
  clear hsm hb2 HG1 HH1 C0 hwr1 hwr2 hwr3
  obtain ⟨_, hrl, hsum⟩ := HSM.out
  have CB := gbegin_walk (.slice ra roots.length rc) roots w2 (HR.out.below HB2.out) (by omega)
  have CRB := fun (w' : World) (hb : Below w2.heap.size w2 w') => rbegin20_walk (.slice ra roots.length rc) roots w' ((HR.out.below HB2.out).below hb) (by omega)
  have HST := Lib.hid (show fitG true (setOf roots) (setOf roots) = true from fitG_set roots)
  have HSL := Lib.hid (Nat.le_trans (setOf_len roots) hrl)
  generalize setOf roots = st at *
  go_wp2_with fail
  refine CB.mono ?_
  rintro e w3 ⟨qv3, mv3, rfl, hq3, hm3, hb3⟩
  obtain ⟨qa3, qc3, rfl, -⟩ := id hq3
  obtain ⟨ma3, mc3, rfl, -⟩ := id hm3
  have CRB := CRB w3 hb3
  clear CB
  go_wp2_with fail
  refine CRB.mono ?_
  rintro e w4 ⟨qv4, mv4, rfl, hq4, hm4, hb4⟩
  obtain ⟨qa4, qc4, rfl, -⟩ := id hq4
  obtain ⟨ma4, mc4, rfl, -⟩ := id hm4
  have hb24 := hb3.trans (hb4.mono hb3.size)
  obtain ⟨w5, hw5, HB5, HG5, HH5, HA5, HC5⟩ : ∃ w5, w5 = (w4.alloc (GCells true (.slice qa3 st.length qc3) (.slice ma3 st.length mc3))).alloc (GCells true (.slice qa4 st.length qc4) (.slice ma4 st.length mc4)) ∧ Hid (Below w2.heap.size w2 w5) ∧ Hid (w5.heap[w.heap.size]? = some (GCells on (.slice qa q.length qc) (.slice ma m.length mc))) ∧ Hid (w5.heap[w.heap.size + 1]? = some (GCells on2 (.slice qa2 q2.length qc2) (.slice ma2 m2.length mc2))) ∧
      Hid (w5.heap[w4.heap.size]? = some (GCells true (.slice qa3 st.length qc3) (.slice ma3 st.length mc3)) ∧ StrRow w5 (.slice qa3 st.length qc3) st ∧ StrRow w5 (.slice ma3 st.length mc3) st) ∧ Hid (w5.heap[w4.heap.size + 1]? = some (GCells true (.slice qa4 st.length qc4) (.slice ma4 st.length mc4)) ∧ StrRow w5 (.slice qa4 st.length qc4) st ∧ StrRow w5 (.slice ma4 st.length mc4) st) := by
    have hb45 : Below w4.heap.size w4 ((w4.alloc (GCells true (.slice qa3 st.length qc3) (.slice ma3 st.length mc3))).alloc (GCells true (.slice qa4 st.length qc4) (.slice ma4 st.length mc4))) := ((Below.refl _ _).alloc (Nat.le_refl _) _).alloc (by simp) _
    have hb25 := hb24.trans (hb45.mono hb24.size)
    have hb35 := hb4.trans (hb45.mono hb4.size)
    exact ⟨_, rfl, hb25, keptG hb25 HG2.out, keptG hb25 HH2.out, ⟨heap_old (heap_alloc_new w4 _), hq3.below hb35, hm3.below hb35⟩, ⟨heap_new' (by simp) _, hq4.below hb45, hm4.below hb45⟩⟩
  have HBW5 := Lib.hid (HB2.out.trans (HB5.out.mono HB2.out.size))
  clear CRB hq3 hm3 hq4 hm4 hb3 hb4 hb24 HG2 HH2
  go_upto_region 4 with fail
  rw [← hw5]
  clear hw5
  obtain ⟨y0, y1, y2⟩ := gcells HG5.out
  obtain ⟨z0, z1, z2⟩ := gcells HH5.out
  obtain ⟨a0, a1, a2⟩ := gcells HA5.out.1
  obtain ⟨c0, c1, c2⟩ := gcells HC5.out.1
  have ly0 := LaterOf.cell y0
  have ly1 := LaterOf.cell y1
  have ly2 := LaterOf.cell y2
  have lz0 := LaterOf.cell z0
  have lz1 := LaterOf.cell z1
  have lz2 := LaterOf.cell z2
  have la0 := LaterOf.cell a0
  have la1 := LaterOf.cell a1
  have la2 := LaterOf.cell a2
  have lc0 := LaterOf.cell c0
  have lc1 := LaterOf.cell c1
  have lc2 := LaterOf.cell c2
  have CF1 := fun (p : LaterOf w5) => pfit20_walk on (.slice qa q.length qc) (.slice ma m.length mc) q m p.world ((HQ.out.below HBW5.out).below p.below) ((HM.out.below HBW5.out).below p.below) (by omega) (by omega)
  have CF2 := fun (p : LaterOf w5) => rfitx20_walk on (.slice qa q.length qc) (.slice ma m.length mc) q m p.world ((HQ.out.below HBW5.out).below p.below) ((HM.out.below HBW5.out).below p.below) (by omega) (by omega)
  have CF3 := fun (p : LaterOf w5) => rfitx20_walk true (.slice qa3 st.length qc3) (.slice ma3 st.length mc3) st st p.world (HA5.out.2.1.below p.below) (HA5.out.2.2.below p.below) (Nat.le_trans HSL.out (by omega)) (Nat.le_trans HSL.out (by omega))
  have CS1 := fun (p : LaterOf w5) => psamex20_walk on on2 (.slice qa q.length qc) (.slice ma m.length mc) (.slice qa2 q2.length qc2) (.slice ma2 m2.length mc2) q m q2 m2 p.world ((HQ.out.below HBW5.out).below p.below) ((HM.out.below HBW5.out).below p.below) ((HQ2.out.below HBW5.out).below p.below) ((HM2.out.below HBW5.out).below p.below) (by omega) (by omega) (by omega) (by omega)
  have CS2 := fun (p : LaterOf w5) => rsamex20_walk on on2 (.slice qa q.length qc) (.slice ma m.length mc) (.slice qa2 q2.length qc2) (.slice ma2 m2.length mc2) q m q2 m2 p.world ((HQ.out.below HBW5.out).below p.below) ((HM.out.below HBW5.out).below p.below) ((HQ2.out.below HBW5.out).below p.below) ((HM2.out.below HBW5.out).below p.below) (by omega) (by omega) (by omega) (by omega)
  have CS3 := fun (p : LaterOf w5) => psamex20_walk on on (.slice qa q.length qc) (.slice ma m.length mc) (.slice qa q.length qc) (.slice ma m.length mc) q m q m p.world ((HQ.out.below HBW5.out).below p.below) ((HM.out.below HBW5.out).below p.below) ((HQ.out.below HBW5.out).below p.below) ((HM.out.below HBW5.out).below p.below) (by omega) (by omega) (by omega) (by omega)
  have CS4 := fun (p : LaterOf w5) => rsamex20_walk true true (.slice qa3 st.length qc3) (.slice ma3 st.length mc3) (.slice qa4 st.length qc4) (.slice ma4 st.length mc4) st st st st p.world (HA5.out.2.1.below p.below) (HA5.out.2.2.below p.below) (HC5.out.2.1.below p.below) (HC5.out.2.2.below p.below) (Nat.le_trans HSL.out (by omega)) (Nat.le_trans HSL.out (by omega)) (Nat.le_trans HSL.out (by omega)) (Nat.le_trans HSL.out (by omega))
  have CF4 := fun (W : World) (hb : Below w5.heap.size w5 W) => rfitx20_walk on (.slice qa q.length qc) (.slice ma m.length mc) q m W ((HQ.out.below HBW5.out).below hb) ((HM.out.below HBW5.out).below hb) (by omega) (by omega)
  rw [show sameG on on q q m m = true by simp [sameG]] at CS3
  rw [show sameG true true st st st st = true by simp [sameG]] at CS4
  rw [HST.out] at CF3
  obtain ⟨fg, hfg⟩ : ∃ fg, fitG on q m = fg := ⟨_, rfl⟩
  have HFG := Lib.hid hfg
  rw [hfg] at CF1 CF2 CF4
  generalize sameG on on2 q q2 m m2 = sg at *
  have hff : (fg != fg) = false := by simp
  have hss : (sg != sg) = false := by simp
  clear hfg y0 y1 y2 z0 z1 z2 a0 a1 a2 c0 c1 c2
  (refine wp_region_later (by kernel_rfl) (by kernel_rfl) ?_; (repeat (go_big_quiet_step (first | (go_at_call 18; with_reducible exact LaterOf.call _ (CF1 _)) | (go_at_call 7; with_reducible exact LaterOf.call _ (CF2 _)) | (go_at_call 7; with_reducible exact LaterOf.call _ (CF3 _)) | (go_at_call 19; with_reducible exact LaterOf.call _ (CS1 _)) | (go_at_call 19; with_reducible exact LaterOf.call _ (CS3 _)) | (go_at_call 10; with_reducible exact LaterOf.call _ (CS2 _)) | (go_at_call 10; with_reducible exact LaterOf.call _ (CS4 _))))); refine wpQuiet_nil ?_; intro _ hw1; obtain ⟨lw, hw2⟩ := hw1; subst hw2)
  have HL5 := Lib.hid lw.below
  have CG := CF4 lw.world lw.below
  clear CF1 CF2 CF3 CF4 CS1 CS2 CS3 CS4 ly0 ly1 ly2 lz0 lz1 lz2 la0 la1 la2 lc0 lc1 lc2
  have hg6 := keptG HL5.out HG5.out
  obtain ⟨y0, y1, y2⟩ := gcells hg6
  have HBW6 := Lib.hid (HBW5.out.trans (HL5.out.mono HBW5.out.size))
  go_wp2_with fail
  refine CG.mono ?_
  rintro e w7 ⟨rfl, hb7⟩
  have HBW7 := Lib.hid (HBW6.out.trans (hb7.mono HBW6.out.size))
  have HG7 := Lib.hid (keptG hb7 hg6)
  clear CG hg6 hb7 y0 y1 y2
  cases fg with
  | false => (have CA := awake20_walk w7; go_wp2_with fail; refine CA.mono ?_; rintro e wy ⟨rfl, hby⟩; have hBy := below_chain HBW7.out hby (Below.size HBW7.out); go_wp2; go_ret; exact ⟨rfl, hBy⟩)
  | true =>
  clear hff hss
  have HFI := Lib.hid (FInv.of_fit HFG.out)
  obtain ⟨n, hz⟩ : ∃ n : Nat, max (0 : Int) (min z 1000) = (n : Int) := ⟨(max (0 : Int) (min z 1000)).toNat, by omega⟩
  have hn1 : n ≤ 1000 := by omega
  have HZ := Lib.hid hz
  have HOL := Lib.hid (show o.length ≤ 1100000 by have := HSM.out.1.len; omega)
  have HOU := Lib.hid (fit5_upP HSM.out.1.fit)
  have HRAW := Lib.hid (show ∀ x ∈ o, x.2.length ≤ 1000000 from fun x hx => by have := HSM.out.1.raw x hx; omega)
  have HFEW := Lib.hid (show 32 * m.length + rawsL o ≤ 32 * 10000 by have := HSM.out.1.tot; omega)
  obtain ⟨nS, hnS⟩ : ∃ nS : QM, nS = (noteQ on q m key, noteM on m key) := ⟨_, rfl⟩
  obtain ⟨tS, htS⟩ : ∃ tS : QM, tS = stepS o n (q, m) := ⟨_, rfl⟩
  have HNS := Lib.hid hnS
  have HTS := Lib.hid htS
  have HCN := Lib.hid (fun (W : World) (hb : Below w7.heap.size w7 W) => show Calls Tryz.prog 14 #[GcV on (.slice qa q.length qc) (.slice ma m.length mc), S key] W (fun e w' => ∃ qv' mv', e = .returned (GcV on qv' mv') ∧ StrRow w' qv' nS.1 ∧ StrRow w' mv' nS.2 ∧ Below W.heap.size W w') from by
    rw [hnS]; exact gnoteL_walk on (.slice qa q.length qc) (.slice ma m.length mc) q m key W ((HQ.out.below HBW7.out).below hb) ((HM.out.below HBW7.out).below hb) (by omega) (by omega) HFI.out.up)
  have HCS := Lib.hid (fun (W : World) (hb : Below w7.heap.size w7 W) => show Calls Tryz.prog 9 #[GcV on (.slice qa q.length qc) (.slice ma m.length mc), ov, .int .i64 z] W (fun e w' => ∃ qv' mv', e = .returned (GcV on qv' mv') ∧ StrRow w' qv' tS.1 ∧ StrRow w' mv' tS.2 ∧ Below W.heap.size W w') from by
    rw [htS]; exact stepZ_walk on (.slice qa q.length qc) (.slice ma m.length mc) ov q m o z n HZ.out W ((HQ.out.below HBW7.out).below hb) ((HM.out.below HBW7.out).below hb) ((HT.out.below HBW7.out).below hb) ((HO.out.below HBW7.out).below hb) HOL.out HOU.out HRAW.out hn1 (by omega) (by omega) HFI.out.up)
  clear hnS htS hz
  obtain ⟨y0, y1, y2⟩ := gcells HG7.out
  go_upto_region 8 with fail
  go_cut [15, 16] from 83 (fun t1 t2 wc => ∃ b15 b16 w9, w9 = wc ∧ t1 = .pointer (some ⟨b15, 0, none⟩) ∧ t2 = .pointer (some ⟨b16, 0, none⟩) ∧ GB w9 b15 on nS ∧ GB w9 b16 on tS ∧ Below w7.heap.size w7 w9)
  case first =>
    have m0 := LaterOf.cell y0
    have m1 := LaterOf.cell y1
    have m2 := LaterOf.cell y2
    (refine wp_held (by kernel_rfl) ?_; intro lw)
    (refine wpAnyH_take (i := 0) (v := ?_) rfl (by kernel_rfl) (by kernel_rfl) (by kernel_rfl) (fun _ _ _ h => h) (Or.inl ⟨by rfl, ?_⟩) ⟨_, rfl⟩ ?_; rotate_left; (intro w9 hS9; obtain ⟨p9, hp9⟩ := hS9; subst hp9; go_simp; try with_reducible rfl))
    (refine wpAnyH_take (i := 1) (v := ?_) rfl (by kernel_rfl) (by kernel_rfl) (by kernel_rfl) (fun _ _ _ h => h) (Or.inl ⟨by rfl, ?_⟩) ⟨_, rfl⟩ ?_; rotate_left; (intro w9 hS9; obtain ⟨p9, hp9⟩ := hS9; subst hp9; go_simp; try with_reducible rfl))
    (refine wpAnyH_take (i := 3) (v := ?_) rfl (by kernel_rfl) (by kernel_rfl) (by kernel_rfl) (fun _ _ _ h => h) (Or.inl ⟨by rfl, ?_⟩) ⟨_, rfl⟩ ?_; rotate_left; (intro w9 hS9; obtain ⟨p9, hp9⟩ := hS9; subst hp9; go_simp; try with_reducible rfl))
    (refine wpAnyH_take (i := 4) (v := ?_) rfl (by kernel_rfl) (by kernel_rfl) (by kernel_rfl) (fun _ _ _ h => h) (Or.inl ⟨by rfl, ?_⟩) ⟨_, rfl⟩ ?_; rotate_left; (intro w9 hS9; obtain ⟨p9, hp9⟩ := hS9; subst hp9; go_simp; try with_reducible rfl))
    (refine wpAnyH_take (i := 5) (v := ?_) rfl (by kernel_rfl) (by kernel_rfl) (by kernel_rfl) (fun _ _ _ h => h) (Or.inl ⟨by rfl, ?_⟩) ⟨_, rfl⟩ ?_; rotate_left; (intro w9 hS9; obtain ⟨p9, hp9⟩ := hS9; subst hp9; go_simp; try with_reducible rfl))
    go_simp
    obtain ⟨W0, hW0⟩ : ∃ W0, lw.world = W0 := ⟨_, rfl⟩
    have HB0 := Lib.hid (show Below w7.heap.size w7 W0 by rw [← hW0]; exact lw.below)
    rw [hW0]
    clear hW0 m0 m1 m2 y0 y1 y2
    refine wpAnyH_three (i := 2) (j := 7) (k := 8) (by kernel_rfl) rfl rfl rfl (fun K hK => ?_) (fun K hK => ?_) (fun K hK => ?_)
    · skip
      have CX := HCN.out W0 HB0.out
      go_simp
      refine CX.mono ?_
      rintro e W1 ⟨qvN, mvN, rfl, hqx, hmx, hbx⟩
      obtain ⟨qaN, qcN, rfl, -⟩ := id hqx
      obtain ⟨maN, mcN, rfl, -⟩ := id hmx
      have HB1 := Lib.hid (HB0.out.trans (hbx.mono HB0.out.size))
      have FN := Lib.hid (And.intro hqx hmx)
      refine hK _ _ ⟨⟨_, HB1.out⟩, rfl⟩ ?_
      clear hK K CX hqx hmx hbx
      refine wpAnyH_three (i := 6) (j := 7) (k := 8) (by kernel_rfl) rfl rfl rfl (fun K hK => ?_) (fun K hK => ?_) (fun K hK => ?_)
      · skip
        have CX := HCS.out W1 HB1.out
        go_simp
        refine CX.mono ?_
        rintro e W2 ⟨qvS, mvS, rfl, hqx, hmx, hbx⟩
        obtain ⟨qaS, qcS, rfl, -⟩ := id hqx
        obtain ⟨maS, mcS, rfl, -⟩ := id hmx
        have HB2 := Lib.hid (HB1.out.trans (hbx.mono HB1.out.size))
        replace FN := Lib.hid (And.intro (FN.out.1.below hbx) (FN.out.2.below hbx))
        have FS := Lib.hid (And.intro hqx hmx)
        refine hK _ _ ⟨⟨_, HB2.out⟩, rfl⟩ ?_
        clear hK K CX hqx hmx hbx
        refine wpAnyH_two (i := 7) (j := 8) (by kernel_rfl) rfl rfl (fun K hK => ?_) (fun K hK => ?_)
        · skip
          go_simp
          obtain ⟨W3, hWx, hbx, hFx⟩ : ∃ X, X = W2.alloc GC0 ∧ Below W2.heap.size W2 X ∧ X.heap[W2.heap.size]? = some GC0 := ⟨_, rfl, (Below.refl _ _).alloc (Nat.le_refl _) _, heap_alloc_new W2 _⟩
          have HB3 := Lib.hid (HB2.out.trans (hbx.mono HB2.out.size))
          rw [← hWx]
          replace FN := Lib.hid (And.intro (FN.out.1.below hbx) (FN.out.2.below hbx))
          replace FS := Lib.hid (And.intro (FS.out.1.below hbx) (FS.out.2.below hbx))
          have HL15 := Lib.hid (show w7.heap.size ≤ W2.heap.size from HB2.out.size)
          have F15 := Lib.hid hFx
          obtain ⟨b15, hbb⟩ : ∃ b, W2.heap.size = b := ⟨_, rfl⟩
          rw [hbb] at F15 HL15 ⊢
          refine hK _ _ ⟨⟨_, HB3.out⟩, rfl⟩ ?_
          clear hK K hWx hbx hFx hbb
          refine wpAnyH_one (i := 8) (by kernel_rfl) rfl (fun K hK => ?_)
          go_simp
          obtain ⟨W4, hWx, hbx, hFx⟩ : ∃ X, X = W3.alloc GC0 ∧ Below W3.heap.size W3 X ∧ X.heap[W3.heap.size]? = some GC0 := ⟨_, rfl, (Below.refl _ _).alloc (Nat.le_refl _) _, heap_alloc_new W3 _⟩
          have HB4 := Lib.hid (HB3.out.trans (hbx.mono HB3.out.size))
          rw [← hWx]
          have HNE := Lib.hid (show b15 ≠ W3.heap.size from fun e => by have := heap_lt F15.out; omega)
          replace FN := Lib.hid (And.intro (FN.out.1.below hbx) (FN.out.2.below hbx))
          replace FS := Lib.hid (And.intro (FS.out.1.below hbx) (FS.out.2.below hbx))
          replace F15 := Lib.hid (keptG hbx F15.out)
          have HL16 := Lib.hid (show w7.heap.size ≤ W3.heap.size from HB3.out.size)
          have F16 := Lib.hid hFx
          obtain ⟨b16, hbb⟩ : ∃ b, W3.heap.size = b := ⟨_, rfl⟩
          rw [hbb] at F16 HL16 HNE ⊢
          refine hK _ _ ⟨⟨_, HB4.out⟩, rfl⟩ ?_
          clear hK K hWx hbx hFx hbb
          have hne : b15 ≠ b16 := by first | exact HNE.out | exact fun e => HNE.out e.symm
          obtain ⟨e16, HB9, WX, hWX, HBX, HG15, HG16⟩ := both_stored (on := on) (s := nS) (t := tS) F15.out F16.out hne FN.out.1 FN.out.2 FS.out.1 FS.out.2 HB4.out HL15.out HL16.out
          obtain ⟨r0, r1, r2⟩ := gcells F15.out
          have s0 := is_some r0
          have s1 := is_some r1
          have s2 := is_some r2
          have f0 := heap_free F15.out 0
          have f1 := heap_free F15.out 1
          have f2 := heap_free F15.out 2
          obtain ⟨W9, hW9⟩ : ∃ W9, W9 = set3 W4 b15 (.bool on) (.slice qaN nS.1.length qcN) (.slice maN nS.2.length mcN) := ⟨_, rfl⟩
          rw [← hW9] at e16 HB9 hWX
          unfold set3 at hW9
          refine wpAnyH_one (i := 9) (by kernel_rfl) rfl (fun K hK => ?_)
          go_simp
          rw [← hW9]
          refine hK _ _ ⟨⟨_, HB9⟩, rfl⟩ ?_
          clear hK K r0 r1 r2 s0 s1 s2 f0 f1 f2 hW9 FN FS F15 F16
          obtain ⟨r0, r1, r2⟩ := gcells e16
          have s0 := is_some r0
          have s1 := is_some r1
          have s2 := is_some r2
          have f0 := heap_free e16 0
          have f1 := heap_free e16 1
          have f2 := heap_free e16 2
          unfold set3 at hWX
          refine wpAnyH_one (i := 10) (by kernel_rfl) rfl (fun K hK => ?_)
          go_simp
          rw [← hWX]
          refine hK _ _ ⟨⟨_, HBX⟩, rfl⟩ ?_
          clear hK K r0 r1 r2 s0 s1 s2 f0 f1 f2 hWX
          (refine wpAnyH_done (by kernel_rfl) ?_ _)
          go_wp2
          go_meet
          case rel => exact ⟨b15, b16, WX, rfl, rfl, rfl, HG15, HG16, HBX⟩
        · skip
          go_simp
          obtain ⟨W3, hWx, hbx, hFx⟩ : ∃ X, X = W2.alloc GC0 ∧ Below W2.heap.size W2 X ∧ X.heap[W2.heap.size]? = some GC0 := ⟨_, rfl, (Below.refl _ _).alloc (Nat.le_refl _) _, heap_alloc_new W2 _⟩
          have HB3 := Lib.hid (HB2.out.trans (hbx.mono HB2.out.size))
          rw [← hWx]
          replace FN := Lib.hid (And.intro (FN.out.1.below hbx) (FN.out.2.below hbx))
          replace FS := Lib.hid (And.intro (FS.out.1.below hbx) (FS.out.2.below hbx))
          have HL16 := Lib.hid (show w7.heap.size ≤ W2.heap.size from HB2.out.size)
          have F16 := Lib.hid hFx
          obtain ⟨b16, hbb⟩ : ∃ b, W2.heap.size = b := ⟨_, rfl⟩
          rw [hbb] at F16 HL16 ⊢
          refine hK _ _ ⟨⟨_, HB3.out⟩, rfl⟩ ?_
          clear hK K hWx hbx hFx hbb
          refine wpAnyH_one (i := 7) (by kernel_rfl) rfl (fun K hK => ?_)
          go_simp
          obtain ⟨W4, hWx, hbx, hFx⟩ : ∃ X, X = W3.alloc GC0 ∧ Below W3.heap.size W3 X ∧ X.heap[W3.heap.size]? = some GC0 := ⟨_, rfl, (Below.refl _ _).alloc (Nat.le_refl _) _, heap_alloc_new W3 _⟩
          have HB4 := Lib.hid (HB3.out.trans (hbx.mono HB3.out.size))
          rw [← hWx]
          have HNE := Lib.hid (show b16 ≠ W3.heap.size from fun e => by have := heap_lt F16.out; omega)
          replace FN := Lib.hid (And.intro (FN.out.1.below hbx) (FN.out.2.below hbx))
          replace FS := Lib.hid (And.intro (FS.out.1.below hbx) (FS.out.2.below hbx))
          replace F16 := Lib.hid (keptG hbx F16.out)
          have HL15 := Lib.hid (show w7.heap.size ≤ W3.heap.size from HB3.out.size)
          have F15 := Lib.hid hFx
          obtain ⟨b15, hbb⟩ : ∃ b, W3.heap.size = b := ⟨_, rfl⟩
          rw [hbb] at F15 HL15 HNE ⊢
          refine hK _ _ ⟨⟨_, HB4.out⟩, rfl⟩ ?_
          clear hK K hWx hbx hFx hbb
          have hne : b15 ≠ b16 := by first | exact HNE.out | exact fun e => HNE.out e.symm
          obtain ⟨e16, HB9, WX, hWX, HBX, HG15, HG16⟩ := both_stored (on := on) (s := nS) (t := tS) F15.out F16.out hne FN.out.1 FN.out.2 FS.out.1 FS.out.2 HB4.out HL15.out HL16.out
          obtain ⟨r0, r1, r2⟩ := gcells F15.out
          have s0 := is_some r0
          have s1 := is_some r1
          have s2 := is_some r2
          have f0 := heap_free F15.out 0
          have f1 := heap_free F15.out 1
          have f2 := heap_free F15.out 2
          obtain ⟨W9, hW9⟩ : ∃ W9, W9 = set3 W4 b15 (.bool on) (.slice qaN nS.1.length qcN) (.slice maN nS.2.length mcN) := ⟨_, rfl⟩
          rw [← hW9] at e16 HB9 hWX
          unfold set3 at hW9
          refine wpAnyH_one (i := 9) (by kernel_rfl) rfl (fun K hK => ?_)
          go_simp
          rw [← hW9]
          refine hK _ _ ⟨⟨_, HB9⟩, rfl⟩ ?_
          clear hK K r0 r1 r2 s0 s1 s2 f0 f1 f2 hW9 FN FS F15 F16
          obtain ⟨r0, r1, r2⟩ := gcells e16
          have s0 := is_some r0
          have s1 := is_some r1
          have s2 := is_some r2
          have f0 := heap_free e16 0
          have f1 := heap_free e16 1
          have f2 := heap_free e16 2
          unfold set3 at hWX
          refine wpAnyH_one (i := 10) (by kernel_rfl) rfl (fun K hK => ?_)
          go_simp
          rw [← hWX]
          refine hK _ _ ⟨⟨_, HBX⟩, rfl⟩ ?_
          clear hK K r0 r1 r2 s0 s1 s2 f0 f1 f2 hWX
          (refine wpAnyH_done (by kernel_rfl) ?_ _)
          go_wp2
          go_meet
          case rel => exact ⟨b15, b16, WX, rfl, rfl, rfl, HG15, HG16, HBX⟩
      · skip
        go_simp
        obtain ⟨W2, hWx, hbx, hFx⟩ : ∃ X, X = W1.alloc GC0 ∧ Below W1.heap.size W1 X ∧ X.heap[W1.heap.size]? = some GC0 := ⟨_, rfl, (Below.refl _ _).alloc (Nat.le_refl _) _, heap_alloc_new W1 _⟩
        have HB2 := Lib.hid (HB1.out.trans (hbx.mono HB1.out.size))
        rw [← hWx]
        replace FN := Lib.hid (And.intro (FN.out.1.below hbx) (FN.out.2.below hbx))
        have HL15 := Lib.hid (show w7.heap.size ≤ W1.heap.size from HB1.out.size)
        have F15 := Lib.hid hFx
        obtain ⟨b15, hbb⟩ : ∃ b, W1.heap.size = b := ⟨_, rfl⟩
        rw [hbb] at F15 HL15 ⊢
        refine hK _ _ ⟨⟨_, HB2.out⟩, rfl⟩ ?_
        clear hK K hWx hbx hFx hbb
        refine wpAnyH_two (i := 6) (j := 8) (by kernel_rfl) rfl rfl (fun K hK => ?_) (fun K hK => ?_)
        · skip
          have CX := HCS.out W2 HB2.out
          go_simp
          refine CX.mono ?_
          rintro e W3 ⟨qvS, mvS, rfl, hqx, hmx, hbx⟩
          obtain ⟨qaS, qcS, rfl, -⟩ := id hqx
          obtain ⟨maS, mcS, rfl, -⟩ := id hmx
          have HB3 := Lib.hid (HB2.out.trans (hbx.mono HB2.out.size))
          replace FN := Lib.hid (And.intro (FN.out.1.below hbx) (FN.out.2.below hbx))
          replace F15 := Lib.hid (keptG hbx F15.out)
          have FS := Lib.hid (And.intro hqx hmx)
          refine hK _ _ ⟨⟨_, HB3.out⟩, rfl⟩ ?_
          clear hK K CX hqx hmx hbx
          refine wpAnyH_one (i := 8) (by kernel_rfl) rfl (fun K hK => ?_)
          go_simp
          obtain ⟨W4, hWx, hbx, hFx⟩ : ∃ X, X = W3.alloc GC0 ∧ Below W3.heap.size W3 X ∧ X.heap[W3.heap.size]? = some GC0 := ⟨_, rfl, (Below.refl _ _).alloc (Nat.le_refl _) _, heap_alloc_new W3 _⟩
          have HB4 := Lib.hid (HB3.out.trans (hbx.mono HB3.out.size))
          rw [← hWx]
          have HNE := Lib.hid (show b15 ≠ W3.heap.size from fun e => by have := heap_lt F15.out; omega)
          replace FN := Lib.hid (And.intro (FN.out.1.below hbx) (FN.out.2.below hbx))
          replace FS := Lib.hid (And.intro (FS.out.1.below hbx) (FS.out.2.below hbx))
          replace F15 := Lib.hid (keptG hbx F15.out)
          have HL16 := Lib.hid (show w7.heap.size ≤ W3.heap.size from HB3.out.size)
          have F16 := Lib.hid hFx
          obtain ⟨b16, hbb⟩ : ∃ b, W3.heap.size = b := ⟨_, rfl⟩
          rw [hbb] at F16 HL16 HNE ⊢
          refine hK _ _ ⟨⟨_, HB4.out⟩, rfl⟩ ?_
          clear hK K hWx hbx hFx hbb
          have hne : b15 ≠ b16 := by first | exact HNE.out | exact fun e => HNE.out e.symm
          obtain ⟨e16, HB9, WX, hWX, HBX, HG15, HG16⟩ := both_stored (on := on) (s := nS) (t := tS) F15.out F16.out hne FN.out.1 FN.out.2 FS.out.1 FS.out.2 HB4.out HL15.out HL16.out
          obtain ⟨r0, r1, r2⟩ := gcells F15.out
          have s0 := is_some r0
          have s1 := is_some r1
          have s2 := is_some r2
          have f0 := heap_free F15.out 0
          have f1 := heap_free F15.out 1
          have f2 := heap_free F15.out 2
          obtain ⟨W9, hW9⟩ : ∃ W9, W9 = set3 W4 b15 (.bool on) (.slice qaN nS.1.length qcN) (.slice maN nS.2.length mcN) := ⟨_, rfl⟩
          rw [← hW9] at e16 HB9 hWX
          unfold set3 at hW9
          refine wpAnyH_one (i := 9) (by kernel_rfl) rfl (fun K hK => ?_)
          go_simp
          rw [← hW9]
          refine hK _ _ ⟨⟨_, HB9⟩, rfl⟩ ?_
          clear hK K r0 r1 r2 s0 s1 s2 f0 f1 f2 hW9 FN FS F15 F16
          obtain ⟨r0, r1, r2⟩ := gcells e16
          have s0 := is_some r0
          have s1 := is_some r1
          have s2 := is_some r2
          have f0 := heap_free e16 0
          have f1 := heap_free e16 1
          have f2 := heap_free e16 2
          unfold set3 at hWX
          refine wpAnyH_one (i := 10) (by kernel_rfl) rfl (fun K hK => ?_)
          go_simp
          rw [← hWX]
          refine hK _ _ ⟨⟨_, HBX⟩, rfl⟩ ?_
          clear hK K r0 r1 r2 s0 s1 s2 f0 f1 f2 hWX
          (refine wpAnyH_done (by kernel_rfl) ?_ _)
          go_wp2
          go_meet
          case rel => exact ⟨b15, b16, WX, rfl, rfl, rfl, HG15, HG16, HBX⟩
        · skip
          go_simp
          obtain ⟨W3, hWx, hbx, hFx⟩ : ∃ X, X = W2.alloc GC0 ∧ Below W2.heap.size W2 X ∧ X.heap[W2.heap.size]? = some GC0 := ⟨_, rfl, (Below.refl _ _).alloc (Nat.le_refl _) _, heap_alloc_new W2 _⟩
          have HB3 := Lib.hid (HB2.out.trans (hbx.mono HB2.out.size))
          rw [← hWx]
          have HNE := Lib.hid (show b15 ≠ W2.heap.size from fun e => by have := heap_lt F15.out; omega)
          replace FN := Lib.hid (And.intro (FN.out.1.below hbx) (FN.out.2.below hbx))
          replace F15 := Lib.hid (keptG hbx F15.out)
          have HL16 := Lib.hid (show w7.heap.size ≤ W2.heap.size from HB2.out.size)
          have F16 := Lib.hid hFx
          obtain ⟨b16, hbb⟩ : ∃ b, W2.heap.size = b := ⟨_, rfl⟩
          rw [hbb] at F16 HL16 HNE ⊢
          refine hK _ _ ⟨⟨_, HB3.out⟩, rfl⟩ ?_
          clear hK K hWx hbx hFx hbb
          refine wpAnyH_one (i := 6) (by kernel_rfl) rfl (fun K hK => ?_)
          have CX := HCS.out W3 HB3.out
          go_simp
          refine CX.mono ?_
          rintro e W4 ⟨qvS, mvS, rfl, hqx, hmx, hbx⟩
          obtain ⟨qaS, qcS, rfl, -⟩ := id hqx
          obtain ⟨maS, mcS, rfl, -⟩ := id hmx
          have HB4 := Lib.hid (HB3.out.trans (hbx.mono HB3.out.size))
          replace FN := Lib.hid (And.intro (FN.out.1.below hbx) (FN.out.2.below hbx))
          replace F15 := Lib.hid (keptG hbx F15.out)
          replace F16 := Lib.hid (keptG hbx F16.out)
          have FS := Lib.hid (And.intro hqx hmx)
          refine hK _ _ ⟨⟨_, HB4.out⟩, rfl⟩ ?_
          clear hK K CX hqx hmx hbx
          have hne : b15 ≠ b16 := by first | exact HNE.out | exact fun e => HNE.out e.symm
          obtain ⟨e16, HB9, WX, hWX, HBX, HG15, HG16⟩ := both_stored (on := on) (s := nS) (t := tS) F15.out F16.out hne FN.out.1 FN.out.2 FS.out.1 FS.out.2 HB4.out HL15.out HL16.out
          obtain ⟨r0, r1, r2⟩ := gcells F15.out
          have s0 := is_some r0
          have s1 := is_some r1
          have s2 := is_some r2
          have f0 := heap_free F15.out 0
          have f1 := heap_free F15.out 1
          have f2 := heap_free F15.out 2
          obtain ⟨W9, hW9⟩ : ∃ W9, W9 = set3 W4 b15 (.bool on) (.slice qaN nS.1.length qcN) (.slice maN nS.2.length mcN) := ⟨_, rfl⟩
          rw [← hW9] at e16 HB9 hWX
          unfold set3 at hW9
          refine wpAnyH_one (i := 9) (by kernel_rfl) rfl (fun K hK => ?_)
          go_simp
          rw [← hW9]
          refine hK _ _ ⟨⟨_, HB9⟩, rfl⟩ ?_
          clear hK K r0 r1 r2 s0 s1 s2 f0 f1 f2 hW9 FN FS F15 F16
          obtain ⟨r0, r1, r2⟩ := gcells e16
          have s0 := is_some r0
          have s1 := is_some r1
          have s2 := is_some r2
          have f0 := heap_free e16 0
          have f1 := heap_free e16 1
          have f2 := heap_free e16 2
          unfold set3 at hWX
          refine wpAnyH_one (i := 10) (by kernel_rfl) rfl (fun K hK => ?_)
          go_simp
          rw [← hWX]
          refine hK _ _ ⟨⟨_, HBX⟩, rfl⟩ ?_
          clear hK K r0 r1 r2 s0 s1 s2 f0 f1 f2 hWX
          (refine wpAnyH_done (by kernel_rfl) ?_ _)
          go_wp2
          go_meet
          case rel => exact ⟨b15, b16, WX, rfl, rfl, rfl, HG15, HG16, HBX⟩
      · skip
        go_simp
        obtain ⟨W2, hWx, hbx, hFx⟩ : ∃ X, X = W1.alloc GC0 ∧ Below W1.heap.size W1 X ∧ X.heap[W1.heap.size]? = some GC0 := ⟨_, rfl, (Below.refl _ _).alloc (Nat.le_refl _) _, heap_alloc_new W1 _⟩
        have HB2 := Lib.hid (HB1.out.trans (hbx.mono HB1.out.size))
        rw [← hWx]
        replace FN := Lib.hid (And.intro (FN.out.1.below hbx) (FN.out.2.below hbx))
        have HL16 := Lib.hid (show w7.heap.size ≤ W1.heap.size from HB1.out.size)
        have F16 := Lib.hid hFx
        obtain ⟨b16, hbb⟩ : ∃ b, W1.heap.size = b := ⟨_, rfl⟩
        rw [hbb] at F16 HL16 ⊢
        refine hK _ _ ⟨⟨_, HB2.out⟩, rfl⟩ ?_
        clear hK K hWx hbx hFx hbb
        refine wpAnyH_two (i := 6) (j := 7) (by kernel_rfl) rfl rfl (fun K hK => ?_) (fun K hK => ?_)
        · skip
          have CX := HCS.out W2 HB2.out
          go_simp
          refine CX.mono ?_
          rintro e W3 ⟨qvS, mvS, rfl, hqx, hmx, hbx⟩
          obtain ⟨qaS, qcS, rfl, -⟩ := id hqx
          obtain ⟨maS, mcS, rfl, -⟩ := id hmx
          have HB3 := Lib.hid (HB2.out.trans (hbx.mono HB2.out.size))
          replace FN := Lib.hid (And.intro (FN.out.1.below hbx) (FN.out.2.below hbx))
          replace F16 := Lib.hid (keptG hbx F16.out)
          have FS := Lib.hid (And.intro hqx hmx)
          refine hK _ _ ⟨⟨_, HB3.out⟩, rfl⟩ ?_
          clear hK K CX hqx hmx hbx
          refine wpAnyH_one (i := 7) (by kernel_rfl) rfl (fun K hK => ?_)
          go_simp
          obtain ⟨W4, hWx, hbx, hFx⟩ : ∃ X, X = W3.alloc GC0 ∧ Below W3.heap.size W3 X ∧ X.heap[W3.heap.size]? = some GC0 := ⟨_, rfl, (Below.refl _ _).alloc (Nat.le_refl _) _, heap_alloc_new W3 _⟩
          have HB4 := Lib.hid (HB3.out.trans (hbx.mono HB3.out.size))
          rw [← hWx]
          have HNE := Lib.hid (show b16 ≠ W3.heap.size from fun e => by have := heap_lt F16.out; omega)
          replace FN := Lib.hid (And.intro (FN.out.1.below hbx) (FN.out.2.below hbx))
          replace FS := Lib.hid (And.intro (FS.out.1.below hbx) (FS.out.2.below hbx))
          replace F16 := Lib.hid (keptG hbx F16.out)
          have HL15 := Lib.hid (show w7.heap.size ≤ W3.heap.size from HB3.out.size)
          have F15 := Lib.hid hFx
          obtain ⟨b15, hbb⟩ : ∃ b, W3.heap.size = b := ⟨_, rfl⟩
          rw [hbb] at F15 HL15 HNE ⊢
          refine hK _ _ ⟨⟨_, HB4.out⟩, rfl⟩ ?_
          clear hK K hWx hbx hFx hbb
          have hne : b15 ≠ b16 := by first | exact HNE.out | exact fun e => HNE.out e.symm
          obtain ⟨e16, HB9, WX, hWX, HBX, HG15, HG16⟩ := both_stored (on := on) (s := nS) (t := tS) F15.out F16.out hne FN.out.1 FN.out.2 FS.out.1 FS.out.2 HB4.out HL15.out HL16.out
          obtain ⟨r0, r1, r2⟩ := gcells F15.out
          have s0 := is_some r0
          have s1 := is_some r1
          have s2 := is_some r2
          have f0 := heap_free F15.out 0
          have f1 := heap_free F15.out 1
          have f2 := heap_free F15.out 2
          obtain ⟨W9, hW9⟩ : ∃ W9, W9 = set3 W4 b15 (.bool on) (.slice qaN nS.1.length qcN) (.slice maN nS.2.length mcN) := ⟨_, rfl⟩
          rw [← hW9] at e16 HB9 hWX
          unfold set3 at hW9
          refine wpAnyH_one (i := 9) (by kernel_rfl) rfl (fun K hK => ?_)
          go_simp
          rw [← hW9]
          refine hK _ _ ⟨⟨_, HB9⟩, rfl⟩ ?_
          clear hK K r0 r1 r2 s0 s1 s2 f0 f1 f2 hW9 FN FS F15 F16
          obtain ⟨r0, r1, r2⟩ := gcells e16
          have s0 := is_some r0
          have s1 := is_some r1
          have s2 := is_some r2
          have f0 := heap_free e16 0
          have f1 := heap_free e16 1
          have f2 := heap_free e16 2
          unfold set3 at hWX
          refine wpAnyH_one (i := 10) (by kernel_rfl) rfl (fun K hK => ?_)
          go_simp
          rw [← hWX]
          refine hK _ _ ⟨⟨_, HBX⟩, rfl⟩ ?_
          clear hK K r0 r1 r2 s0 s1 s2 f0 f1 f2 hWX
          (refine wpAnyH_done (by kernel_rfl) ?_ _)
          go_wp2
          go_meet
          case rel => exact ⟨b15, b16, WX, rfl, rfl, rfl, HG15, HG16, HBX⟩
        · skip
          go_simp
          obtain ⟨W3, hWx, hbx, hFx⟩ : ∃ X, X = W2.alloc GC0 ∧ Below W2.heap.size W2 X ∧ X.heap[W2.heap.size]? = some GC0 := ⟨_, rfl, (Below.refl _ _).alloc (Nat.le_refl _) _, heap_alloc_new W2 _⟩
          have HB3 := Lib.hid (HB2.out.trans (hbx.mono HB2.out.size))
          rw [← hWx]
          have HNE := Lib.hid (show b16 ≠ W2.heap.size from fun e => by have := heap_lt F16.out; omega)
          replace FN := Lib.hid (And.intro (FN.out.1.below hbx) (FN.out.2.below hbx))
          replace F16 := Lib.hid (keptG hbx F16.out)
          have HL15 := Lib.hid (show w7.heap.size ≤ W2.heap.size from HB2.out.size)
          have F15 := Lib.hid hFx
          obtain ⟨b15, hbb⟩ : ∃ b, W2.heap.size = b := ⟨_, rfl⟩
          rw [hbb] at F15 HL15 HNE ⊢
          refine hK _ _ ⟨⟨_, HB3.out⟩, rfl⟩ ?_
          clear hK K hWx hbx hFx hbb
          refine wpAnyH_one (i := 6) (by kernel_rfl) rfl (fun K hK => ?_)
          have CX := HCS.out W3 HB3.out
          go_simp
          refine CX.mono ?_
          rintro e W4 ⟨qvS, mvS, rfl, hqx, hmx, hbx⟩
          obtain ⟨qaS, qcS, rfl, -⟩ := id hqx
          obtain ⟨maS, mcS, rfl, -⟩ := id hmx
          have HB4 := Lib.hid (HB3.out.trans (hbx.mono HB3.out.size))
          replace FN := Lib.hid (And.intro (FN.out.1.below hbx) (FN.out.2.below hbx))
          replace F15 := Lib.hid (keptG hbx F15.out)
          replace F16 := Lib.hid (keptG hbx F16.out)
          have FS := Lib.hid (And.intro hqx hmx)
          refine hK _ _ ⟨⟨_, HB4.out⟩, rfl⟩ ?_
          clear hK K CX hqx hmx hbx
          have hne : b15 ≠ b16 := by first | exact HNE.out | exact fun e => HNE.out e.symm
          obtain ⟨e16, HB9, WX, hWX, HBX, HG15, HG16⟩ := both_stored (on := on) (s := nS) (t := tS) F15.out F16.out hne FN.out.1 FN.out.2 FS.out.1 FS.out.2 HB4.out HL15.out HL16.out
          obtain ⟨r0, r1, r2⟩ := gcells F15.out
          have s0 := is_some r0
          have s1 := is_some r1
          have s2 := is_some r2
          have f0 := heap_free F15.out 0
          have f1 := heap_free F15.out 1
          have f2 := heap_free F15.out 2
          obtain ⟨W9, hW9⟩ : ∃ W9, W9 = set3 W4 b15 (.bool on) (.slice qaN nS.1.length qcN) (.slice maN nS.2.length mcN) := ⟨_, rfl⟩
          rw [← hW9] at e16 HB9 hWX
          unfold set3 at hW9
          refine wpAnyH_one (i := 9) (by kernel_rfl) rfl (fun K hK => ?_)
          go_simp
          rw [← hW9]
          refine hK _ _ ⟨⟨_, HB9⟩, rfl⟩ ?_
          clear hK K r0 r1 r2 s0 s1 s2 f0 f1 f2 hW9 FN FS F15 F16
          obtain ⟨r0, r1, r2⟩ := gcells e16
          have s0 := is_some r0
          have s1 := is_some r1
          have s2 := is_some r2
          have f0 := heap_free e16 0
          have f1 := heap_free e16 1
          have f2 := heap_free e16 2
          unfold set3 at hWX
          refine wpAnyH_one (i := 10) (by kernel_rfl) rfl (fun K hK => ?_)
          go_simp
          rw [← hWX]
          refine hK _ _ ⟨⟨_, HBX⟩, rfl⟩ ?_
          clear hK K r0 r1 r2 s0 s1 s2 f0 f1 f2 hWX
          (refine wpAnyH_done (by kernel_rfl) ?_ _)
          go_wp2
          go_meet
          case rel => exact ⟨b15, b16, WX, rfl, rfl, rfl, HG15, HG16, HBX⟩
    · skip
      go_simp
      obtain ⟨W1, hWx, hbx, hFx⟩ : ∃ X, X = W0.alloc GC0 ∧ Below W0.heap.size W0 X ∧ X.heap[W0.heap.size]? = some GC0 := ⟨_, rfl, (Below.refl _ _).alloc (Nat.le_refl _) _, heap_alloc_new W0 _⟩
      have HB1 := Lib.hid (HB0.out.trans (hbx.mono HB0.out.size))
      rw [← hWx]
      have HL15 := Lib.hid (show w7.heap.size ≤ W0.heap.size from HB0.out.size)
      have F15 := Lib.hid hFx
      obtain ⟨b15, hbb⟩ : ∃ b, W0.heap.size = b := ⟨_, rfl⟩
      rw [hbb] at F15 HL15 ⊢
      refine hK _ _ ⟨⟨_, HB1.out⟩, rfl⟩ ?_
      clear hK K hWx hbx hFx hbb
      refine wpAnyH_two (i := 2) (j := 8) (by kernel_rfl) rfl rfl (fun K hK => ?_) (fun K hK => ?_)
      · skip
        have CX := HCN.out W1 HB1.out
        go_simp
        refine CX.mono ?_
        rintro e W2 ⟨qvN, mvN, rfl, hqx, hmx, hbx⟩
        obtain ⟨qaN, qcN, rfl, -⟩ := id hqx
        obtain ⟨maN, mcN, rfl, -⟩ := id hmx
        have HB2 := Lib.hid (HB1.out.trans (hbx.mono HB1.out.size))
        replace F15 := Lib.hid (keptG hbx F15.out)
        have FN := Lib.hid (And.intro hqx hmx)
        refine hK _ _ ⟨⟨_, HB2.out⟩, rfl⟩ ?_
        clear hK K CX hqx hmx hbx
        refine wpAnyH_two (i := 6) (j := 8) (by kernel_rfl) rfl rfl (fun K hK => ?_) (fun K hK => ?_)
        · skip
          have CX := HCS.out W2 HB2.out
          go_simp
          refine CX.mono ?_
          rintro e W3 ⟨qvS, mvS, rfl, hqx, hmx, hbx⟩
          obtain ⟨qaS, qcS, rfl, -⟩ := id hqx
          obtain ⟨maS, mcS, rfl, -⟩ := id hmx
          have HB3 := Lib.hid (HB2.out.trans (hbx.mono HB2.out.size))
          replace FN := Lib.hid (And.intro (FN.out.1.below hbx) (FN.out.2.below hbx))
          replace F15 := Lib.hid (keptG hbx F15.out)
          have FS := Lib.hid (And.intro hqx hmx)
          refine hK _ _ ⟨⟨_, HB3.out⟩, rfl⟩ ?_
          clear hK K CX hqx hmx hbx
          refine wpAnyH_one (i := 8) (by kernel_rfl) rfl (fun K hK => ?_)
          go_simp
          obtain ⟨W4, hWx, hbx, hFx⟩ : ∃ X, X = W3.alloc GC0 ∧ Below W3.heap.size W3 X ∧ X.heap[W3.heap.size]? = some GC0 := ⟨_, rfl, (Below.refl _ _).alloc (Nat.le_refl _) _, heap_alloc_new W3 _⟩
          have HB4 := Lib.hid (HB3.out.trans (hbx.mono HB3.out.size))
          rw [← hWx]
          have HNE := Lib.hid (show b15 ≠ W3.heap.size from fun e => by have := heap_lt F15.out; omega)
          replace FN := Lib.hid (And.intro (FN.out.1.below hbx) (FN.out.2.below hbx))
          replace FS := Lib.hid (And.intro (FS.out.1.below hbx) (FS.out.2.below hbx))
          replace F15 := Lib.hid (keptG hbx F15.out)
          have HL16 := Lib.hid (show w7.heap.size ≤ W3.heap.size from HB3.out.size)
          have F16 := Lib.hid hFx
          obtain ⟨b16, hbb⟩ : ∃ b, W3.heap.size = b := ⟨_, rfl⟩
          rw [hbb] at F16 HL16 HNE ⊢
          refine hK _ _ ⟨⟨_, HB4.out⟩, rfl⟩ ?_
          clear hK K hWx hbx hFx hbb
          have hne : b15 ≠ b16 := by first | exact HNE.out | exact fun e => HNE.out e.symm
          obtain ⟨e16, HB9, WX, hWX, HBX, HG15, HG16⟩ := both_stored (on := on) (s := nS) (t := tS) F15.out F16.out hne FN.out.1 FN.out.2 FS.out.1 FS.out.2 HB4.out HL15.out HL16.out
          obtain ⟨r0, r1, r2⟩ := gcells F15.out
          have s0 := is_some r0
          have s1 := is_some r1
          have s2 := is_some r2
          have f0 := heap_free F15.out 0
          have f1 := heap_free F15.out 1
          have f2 := heap_free F15.out 2
          obtain ⟨W9, hW9⟩ : ∃ W9, W9 = set3 W4 b15 (.bool on) (.slice qaN nS.1.length qcN) (.slice maN nS.2.length mcN) := ⟨_, rfl⟩
          rw [← hW9] at e16 HB9 hWX
          unfold set3 at hW9
          refine wpAnyH_one (i := 9) (by kernel_rfl) rfl (fun K hK => ?_)
          go_simp
          rw [← hW9]
          refine hK _ _ ⟨⟨_, HB9⟩, rfl⟩ ?_
          clear hK K r0 r1 r2 s0 s1 s2 f0 f1 f2 hW9 FN FS F15 F16
          obtain ⟨r0, r1, r2⟩ := gcells e16
          have s0 := is_some r0
          have s1 := is_some r1
          have s2 := is_some r2
          have f0 := heap_free e16 0
          have f1 := heap_free e16 1
          have f2 := heap_free e16 2
          unfold set3 at hWX
          refine wpAnyH_one (i := 10) (by kernel_rfl) rfl (fun K hK => ?_)
          go_simp
          rw [← hWX]
          refine hK _ _ ⟨⟨_, HBX⟩, rfl⟩ ?_
          clear hK K r0 r1 r2 s0 s1 s2 f0 f1 f2 hWX
          (refine wpAnyH_done (by kernel_rfl) ?_ _)
          go_wp2
          go_meet
          case rel => exact ⟨b15, b16, WX, rfl, rfl, rfl, HG15, HG16, HBX⟩
        · skip
          go_simp
          obtain ⟨W3, hWx, hbx, hFx⟩ : ∃ X, X = W2.alloc GC0 ∧ Below W2.heap.size W2 X ∧ X.heap[W2.heap.size]? = some GC0 := ⟨_, rfl, (Below.refl _ _).alloc (Nat.le_refl _) _, heap_alloc_new W2 _⟩
          have HB3 := Lib.hid (HB2.out.trans (hbx.mono HB2.out.size))
          rw [← hWx]
          have HNE := Lib.hid (show b15 ≠ W2.heap.size from fun e => by have := heap_lt F15.out; omega)
          replace FN := Lib.hid (And.intro (FN.out.1.below hbx) (FN.out.2.below hbx))
          replace F15 := Lib.hid (keptG hbx F15.out)
          have HL16 := Lib.hid (show w7.heap.size ≤ W2.heap.size from HB2.out.size)
          have F16 := Lib.hid hFx
          obtain ⟨b16, hbb⟩ : ∃ b, W2.heap.size = b := ⟨_, rfl⟩
          rw [hbb] at F16 HL16 HNE ⊢
          refine hK _ _ ⟨⟨_, HB3.out⟩, rfl⟩ ?_
          clear hK K hWx hbx hFx hbb
          refine wpAnyH_one (i := 6) (by kernel_rfl) rfl (fun K hK => ?_)
          have CX := HCS.out W3 HB3.out
          go_simp
          refine CX.mono ?_
          rintro e W4 ⟨qvS, mvS, rfl, hqx, hmx, hbx⟩
          obtain ⟨qaS, qcS, rfl, -⟩ := id hqx
          obtain ⟨maS, mcS, rfl, -⟩ := id hmx
          have HB4 := Lib.hid (HB3.out.trans (hbx.mono HB3.out.size))
          replace FN := Lib.hid (And.intro (FN.out.1.below hbx) (FN.out.2.below hbx))
          replace F15 := Lib.hid (keptG hbx F15.out)
          replace F16 := Lib.hid (keptG hbx F16.out)
          have FS := Lib.hid (And.intro hqx hmx)
          refine hK _ _ ⟨⟨_, HB4.out⟩, rfl⟩ ?_
          clear hK K CX hqx hmx hbx
          have hne : b15 ≠ b16 := by first | exact HNE.out | exact fun e => HNE.out e.symm
          obtain ⟨e16, HB9, WX, hWX, HBX, HG15, HG16⟩ := both_stored (on := on) (s := nS) (t := tS) F15.out F16.out hne FN.out.1 FN.out.2 FS.out.1 FS.out.2 HB4.out HL15.out HL16.out
          obtain ⟨r0, r1, r2⟩ := gcells F15.out
          have s0 := is_some r0
          have s1 := is_some r1
          have s2 := is_some r2
          have f0 := heap_free F15.out 0
          have f1 := heap_free F15.out 1
          have f2 := heap_free F15.out 2
          obtain ⟨W9, hW9⟩ : ∃ W9, W9 = set3 W4 b15 (.bool on) (.slice qaN nS.1.length qcN) (.slice maN nS.2.length mcN) := ⟨_, rfl⟩
          rw [← hW9] at e16 HB9 hWX
          unfold set3 at hW9
          refine wpAnyH_one (i := 9) (by kernel_rfl) rfl (fun K hK => ?_)
          go_simp
          rw [← hW9]
          refine hK _ _ ⟨⟨_, HB9⟩, rfl⟩ ?_
          clear hK K r0 r1 r2 s0 s1 s2 f0 f1 f2 hW9 FN FS F15 F16
          obtain ⟨r0, r1, r2⟩ := gcells e16
          have s0 := is_some r0
          have s1 := is_some r1
          have s2 := is_some r2
          have f0 := heap_free e16 0
          have f1 := heap_free e16 1
          have f2 := heap_free e16 2
          unfold set3 at hWX
          refine wpAnyH_one (i := 10) (by kernel_rfl) rfl (fun K hK => ?_)
          go_simp
          rw [← hWX]
          refine hK _ _ ⟨⟨_, HBX⟩, rfl⟩ ?_
          clear hK K r0 r1 r2 s0 s1 s2 f0 f1 f2 hWX
          (refine wpAnyH_done (by kernel_rfl) ?_ _)
          go_wp2
          go_meet
          case rel => exact ⟨b15, b16, WX, rfl, rfl, rfl, HG15, HG16, HBX⟩
      · skip
        go_simp
        obtain ⟨W2, hWx, hbx, hFx⟩ : ∃ X, X = W1.alloc GC0 ∧ Below W1.heap.size W1 X ∧ X.heap[W1.heap.size]? = some GC0 := ⟨_, rfl, (Below.refl _ _).alloc (Nat.le_refl _) _, heap_alloc_new W1 _⟩
        have HB2 := Lib.hid (HB1.out.trans (hbx.mono HB1.out.size))
        rw [← hWx]
        have HNE := Lib.hid (show b15 ≠ W1.heap.size from fun e => by have := heap_lt F15.out; omega)
        replace F15 := Lib.hid (keptG hbx F15.out)
        have HL16 := Lib.hid (show w7.heap.size ≤ W1.heap.size from HB1.out.size)
        have F16 := Lib.hid hFx
        obtain ⟨b16, hbb⟩ : ∃ b, W1.heap.size = b := ⟨_, rfl⟩
        rw [hbb] at F16 HL16 HNE ⊢
        refine hK _ _ ⟨⟨_, HB2.out⟩, rfl⟩ ?_
        clear hK K hWx hbx hFx hbb
        refine wpAnyH_one (i := 2) (by kernel_rfl) rfl (fun K hK => ?_)
        have CX := HCN.out W2 HB2.out
        go_simp
        refine CX.mono ?_
        rintro e W3 ⟨qvN, mvN, rfl, hqx, hmx, hbx⟩
        obtain ⟨qaN, qcN, rfl, -⟩ := id hqx
        obtain ⟨maN, mcN, rfl, -⟩ := id hmx
        have HB3 := Lib.hid (HB2.out.trans (hbx.mono HB2.out.size))
        replace F15 := Lib.hid (keptG hbx F15.out)
        replace F16 := Lib.hid (keptG hbx F16.out)
        have FN := Lib.hid (And.intro hqx hmx)
        refine hK _ _ ⟨⟨_, HB3.out⟩, rfl⟩ ?_
        clear hK K CX hqx hmx hbx
        refine wpAnyH_one (i := 6) (by kernel_rfl) rfl (fun K hK => ?_)
        have CX := HCS.out W3 HB3.out
        go_simp
        refine CX.mono ?_
        rintro e W4 ⟨qvS, mvS, rfl, hqx, hmx, hbx⟩
        obtain ⟨qaS, qcS, rfl, -⟩ := id hqx
        obtain ⟨maS, mcS, rfl, -⟩ := id hmx
        have HB4 := Lib.hid (HB3.out.trans (hbx.mono HB3.out.size))
        replace FN := Lib.hid (And.intro (FN.out.1.below hbx) (FN.out.2.below hbx))
        replace F15 := Lib.hid (keptG hbx F15.out)
        replace F16 := Lib.hid (keptG hbx F16.out)
        have FS := Lib.hid (And.intro hqx hmx)
        refine hK _ _ ⟨⟨_, HB4.out⟩, rfl⟩ ?_
        clear hK K CX hqx hmx hbx
        have hne : b15 ≠ b16 := by first | exact HNE.out | exact fun e => HNE.out e.symm
        obtain ⟨e16, HB9, WX, hWX, HBX, HG15, HG16⟩ := both_stored (on := on) (s := nS) (t := tS) F15.out F16.out hne FN.out.1 FN.out.2 FS.out.1 FS.out.2 HB4.out HL15.out HL16.out
        obtain ⟨r0, r1, r2⟩ := gcells F15.out
        have s0 := is_some r0
        have s1 := is_some r1
        have s2 := is_some r2
        have f0 := heap_free F15.out 0
        have f1 := heap_free F15.out 1
        have f2 := heap_free F15.out 2
        obtain ⟨W9, hW9⟩ : ∃ W9, W9 = set3 W4 b15 (.bool on) (.slice qaN nS.1.length qcN) (.slice maN nS.2.length mcN) := ⟨_, rfl⟩
        rw [← hW9] at e16 HB9 hWX
        unfold set3 at hW9
        refine wpAnyH_one (i := 9) (by kernel_rfl) rfl (fun K hK => ?_)
        go_simp
        rw [← hW9]
        refine hK _ _ ⟨⟨_, HB9⟩, rfl⟩ ?_
        clear hK K r0 r1 r2 s0 s1 s2 f0 f1 f2 hW9 FN FS F15 F16
        obtain ⟨r0, r1, r2⟩ := gcells e16
        have s0 := is_some r0
        have s1 := is_some r1
        have s2 := is_some r2
        have f0 := heap_free e16 0
        have f1 := heap_free e16 1
        have f2 := heap_free e16 2
        unfold set3 at hWX
        refine wpAnyH_one (i := 10) (by kernel_rfl) rfl (fun K hK => ?_)
        go_simp
        rw [← hWX]
        refine hK _ _ ⟨⟨_, HBX⟩, rfl⟩ ?_
        clear hK K r0 r1 r2 s0 s1 s2 f0 f1 f2 hWX
        (refine wpAnyH_done (by kernel_rfl) ?_ _)
        go_wp2
        go_meet
        case rel => exact ⟨b15, b16, WX, rfl, rfl, rfl, HG15, HG16, HBX⟩
    · skip
      go_simp
      obtain ⟨W1, hWx, hbx, hFx⟩ : ∃ X, X = W0.alloc GC0 ∧ Below W0.heap.size W0 X ∧ X.heap[W0.heap.size]? = some GC0 := ⟨_, rfl, (Below.refl _ _).alloc (Nat.le_refl _) _, heap_alloc_new W0 _⟩
      have HB1 := Lib.hid (HB0.out.trans (hbx.mono HB0.out.size))
      rw [← hWx]
      have HL16 := Lib.hid (show w7.heap.size ≤ W0.heap.size from HB0.out.size)
      have F16 := Lib.hid hFx
      obtain ⟨b16, hbb⟩ : ∃ b, W0.heap.size = b := ⟨_, rfl⟩
      rw [hbb] at F16 HL16 ⊢
      refine hK _ _ ⟨⟨_, HB1.out⟩, rfl⟩ ?_
      clear hK K hWx hbx hFx hbb
      refine wpAnyH_two (i := 2) (j := 7) (by kernel_rfl) rfl rfl (fun K hK => ?_) (fun K hK => ?_)
      · skip
        have CX := HCN.out W1 HB1.out
        go_simp
        refine CX.mono ?_
        rintro e W2 ⟨qvN, mvN, rfl, hqx, hmx, hbx⟩
        obtain ⟨qaN, qcN, rfl, -⟩ := id hqx
        obtain ⟨maN, mcN, rfl, -⟩ := id hmx
        have HB2 := Lib.hid (HB1.out.trans (hbx.mono HB1.out.size))
        replace F16 := Lib.hid (keptG hbx F16.out)
        have FN := Lib.hid (And.intro hqx hmx)
        refine hK _ _ ⟨⟨_, HB2.out⟩, rfl⟩ ?_
        clear hK K CX hqx hmx hbx
        refine wpAnyH_two (i := 6) (j := 7) (by kernel_rfl) rfl rfl (fun K hK => ?_) (fun K hK => ?_)
        · skip
          have CX := HCS.out W2 HB2.out
          go_simp
          refine CX.mono ?_
          rintro e W3 ⟨qvS, mvS, rfl, hqx, hmx, hbx⟩
          obtain ⟨qaS, qcS, rfl, -⟩ := id hqx
          obtain ⟨maS, mcS, rfl, -⟩ := id hmx
          have HB3 := Lib.hid (HB2.out.trans (hbx.mono HB2.out.size))
          replace FN := Lib.hid (And.intro (FN.out.1.below hbx) (FN.out.2.below hbx))
          replace F16 := Lib.hid (keptG hbx F16.out)
          have FS := Lib.hid (And.intro hqx hmx)
          refine hK _ _ ⟨⟨_, HB3.out⟩, rfl⟩ ?_
          clear hK K CX hqx hmx hbx
          refine wpAnyH_one (i := 7) (by kernel_rfl) rfl (fun K hK => ?_)
          go_simp
          obtain ⟨W4, hWx, hbx, hFx⟩ : ∃ X, X = W3.alloc GC0 ∧ Below W3.heap.size W3 X ∧ X.heap[W3.heap.size]? = some GC0 := ⟨_, rfl, (Below.refl _ _).alloc (Nat.le_refl _) _, heap_alloc_new W3 _⟩
          have HB4 := Lib.hid (HB3.out.trans (hbx.mono HB3.out.size))
          rw [← hWx]
          have HNE := Lib.hid (show b16 ≠ W3.heap.size from fun e => by have := heap_lt F16.out; omega)
          replace FN := Lib.hid (And.intro (FN.out.1.below hbx) (FN.out.2.below hbx))
          replace FS := Lib.hid (And.intro (FS.out.1.below hbx) (FS.out.2.below hbx))
          replace F16 := Lib.hid (keptG hbx F16.out)
          have HL15 := Lib.hid (show w7.heap.size ≤ W3.heap.size from HB3.out.size)
          have F15 := Lib.hid hFx
          obtain ⟨b15, hbb⟩ : ∃ b, W3.heap.size = b := ⟨_, rfl⟩
          rw [hbb] at F15 HL15 HNE ⊢
          refine hK _ _ ⟨⟨_, HB4.out⟩, rfl⟩ ?_
          clear hK K hWx hbx hFx hbb
          have hne : b15 ≠ b16 := by first | exact HNE.out | exact fun e => HNE.out e.symm
          obtain ⟨e16, HB9, WX, hWX, HBX, HG15, HG16⟩ := both_stored (on := on) (s := nS) (t := tS) F15.out F16.out hne FN.out.1 FN.out.2 FS.out.1 FS.out.2 HB4.out HL15.out HL16.out
          obtain ⟨r0, r1, r2⟩ := gcells F15.out
          have s0 := is_some r0
          have s1 := is_some r1
          have s2 := is_some r2
          have f0 := heap_free F15.out 0
          have f1 := heap_free F15.out 1
          have f2 := heap_free F15.out 2
          obtain ⟨W9, hW9⟩ : ∃ W9, W9 = set3 W4 b15 (.bool on) (.slice qaN nS.1.length qcN) (.slice maN nS.2.length mcN) := ⟨_, rfl⟩
          rw [← hW9] at e16 HB9 hWX
          unfold set3 at hW9
          refine wpAnyH_one (i := 9) (by kernel_rfl) rfl (fun K hK => ?_)
          go_simp
          rw [← hW9]
          refine hK _ _ ⟨⟨_, HB9⟩, rfl⟩ ?_
          clear hK K r0 r1 r2 s0 s1 s2 f0 f1 f2 hW9 FN FS F15 F16
          obtain ⟨r0, r1, r2⟩ := gcells e16
          have s0 := is_some r0
          have s1 := is_some r1
          have s2 := is_some r2
          have f0 := heap_free e16 0
          have f1 := heap_free e16 1
          have f2 := heap_free e16 2
          unfold set3 at hWX
          refine wpAnyH_one (i := 10) (by kernel_rfl) rfl (fun K hK => ?_)
          go_simp
          rw [← hWX]
          refine hK _ _ ⟨⟨_, HBX⟩, rfl⟩ ?_
          clear hK K r0 r1 r2 s0 s1 s2 f0 f1 f2 hWX
          (refine wpAnyH_done (by kernel_rfl) ?_ _)
          go_wp2
          go_meet
          case rel => exact ⟨b15, b16, WX, rfl, rfl, rfl, HG15, HG16, HBX⟩
        · skip
          go_simp
          obtain ⟨W3, hWx, hbx, hFx⟩ : ∃ X, X = W2.alloc GC0 ∧ Below W2.heap.size W2 X ∧ X.heap[W2.heap.size]? = some GC0 := ⟨_, rfl, (Below.refl _ _).alloc (Nat.le_refl _) _, heap_alloc_new W2 _⟩
          have HB3 := Lib.hid (HB2.out.trans (hbx.mono HB2.out.size))
          rw [← hWx]
          have HNE := Lib.hid (show b16 ≠ W2.heap.size from fun e => by have := heap_lt F16.out; omega)
          replace FN := Lib.hid (And.intro (FN.out.1.below hbx) (FN.out.2.below hbx))
          replace F16 := Lib.hid (keptG hbx F16.out)
          have HL15 := Lib.hid (show w7.heap.size ≤ W2.heap.size from HB2.out.size)
          have F15 := Lib.hid hFx
          obtain ⟨b15, hbb⟩ : ∃ b, W2.heap.size = b := ⟨_, rfl⟩
          rw [hbb] at F15 HL15 HNE ⊢
          refine hK _ _ ⟨⟨_, HB3.out⟩, rfl⟩ ?_
          clear hK K hWx hbx hFx hbb
          refine wpAnyH_one (i := 6) (by kernel_rfl) rfl (fun K hK => ?_)
          have CX := HCS.out W3 HB3.out
          go_simp
          refine CX.mono ?_
          rintro e W4 ⟨qvS, mvS, rfl, hqx, hmx, hbx⟩
          obtain ⟨qaS, qcS, rfl, -⟩ := id hqx
          obtain ⟨maS, mcS, rfl, -⟩ := id hmx
          have HB4 := Lib.hid (HB3.out.trans (hbx.mono HB3.out.size))
          replace FN := Lib.hid (And.intro (FN.out.1.below hbx) (FN.out.2.below hbx))
          replace F15 := Lib.hid (keptG hbx F15.out)
          replace F16 := Lib.hid (keptG hbx F16.out)
          have FS := Lib.hid (And.intro hqx hmx)
          refine hK _ _ ⟨⟨_, HB4.out⟩, rfl⟩ ?_
          clear hK K CX hqx hmx hbx
          have hne : b15 ≠ b16 := by first | exact HNE.out | exact fun e => HNE.out e.symm
          obtain ⟨e16, HB9, WX, hWX, HBX, HG15, HG16⟩ := both_stored (on := on) (s := nS) (t := tS) F15.out F16.out hne FN.out.1 FN.out.2 FS.out.1 FS.out.2 HB4.out HL15.out HL16.out
          obtain ⟨r0, r1, r2⟩ := gcells F15.out
          have s0 := is_some r0
          have s1 := is_some r1
          have s2 := is_some r2
          have f0 := heap_free F15.out 0
          have f1 := heap_free F15.out 1
          have f2 := heap_free F15.out 2
          obtain ⟨W9, hW9⟩ : ∃ W9, W9 = set3 W4 b15 (.bool on) (.slice qaN nS.1.length qcN) (.slice maN nS.2.length mcN) := ⟨_, rfl⟩
          rw [← hW9] at e16 HB9 hWX
          unfold set3 at hW9
          refine wpAnyH_one (i := 9) (by kernel_rfl) rfl (fun K hK => ?_)
          go_simp
          rw [← hW9]
          refine hK _ _ ⟨⟨_, HB9⟩, rfl⟩ ?_
          clear hK K r0 r1 r2 s0 s1 s2 f0 f1 f2 hW9 FN FS F15 F16
          obtain ⟨r0, r1, r2⟩ := gcells e16
          have s0 := is_some r0
          have s1 := is_some r1
          have s2 := is_some r2
          have f0 := heap_free e16 0
          have f1 := heap_free e16 1
          have f2 := heap_free e16 2
          unfold set3 at hWX
          refine wpAnyH_one (i := 10) (by kernel_rfl) rfl (fun K hK => ?_)
          go_simp
          rw [← hWX]
          refine hK _ _ ⟨⟨_, HBX⟩, rfl⟩ ?_
          clear hK K r0 r1 r2 s0 s1 s2 f0 f1 f2 hWX
          (refine wpAnyH_done (by kernel_rfl) ?_ _)
          go_wp2
          go_meet
          case rel => exact ⟨b15, b16, WX, rfl, rfl, rfl, HG15, HG16, HBX⟩
      · skip
        go_simp
        obtain ⟨W2, hWx, hbx, hFx⟩ : ∃ X, X = W1.alloc GC0 ∧ Below W1.heap.size W1 X ∧ X.heap[W1.heap.size]? = some GC0 := ⟨_, rfl, (Below.refl _ _).alloc (Nat.le_refl _) _, heap_alloc_new W1 _⟩
        have HB2 := Lib.hid (HB1.out.trans (hbx.mono HB1.out.size))
        rw [← hWx]
        have HNE := Lib.hid (show b16 ≠ W1.heap.size from fun e => by have := heap_lt F16.out; omega)
        replace F16 := Lib.hid (keptG hbx F16.out)
        have HL15 := Lib.hid (show w7.heap.size ≤ W1.heap.size from HB1.out.size)
        have F15 := Lib.hid hFx
        obtain ⟨b15, hbb⟩ : ∃ b, W1.heap.size = b := ⟨_, rfl⟩
        rw [hbb] at F15 HL15 HNE ⊢
        refine hK _ _ ⟨⟨_, HB2.out⟩, rfl⟩ ?_
        clear hK K hWx hbx hFx hbb
        refine wpAnyH_one (i := 2) (by kernel_rfl) rfl (fun K hK => ?_)
        have CX := HCN.out W2 HB2.out
        go_simp
        refine CX.mono ?_
        rintro e W3 ⟨qvN, mvN, rfl, hqx, hmx, hbx⟩
        obtain ⟨qaN, qcN, rfl, -⟩ := id hqx
        obtain ⟨maN, mcN, rfl, -⟩ := id hmx
        have HB3 := Lib.hid (HB2.out.trans (hbx.mono HB2.out.size))
        replace F15 := Lib.hid (keptG hbx F15.out)
        replace F16 := Lib.hid (keptG hbx F16.out)
        have FN := Lib.hid (And.intro hqx hmx)
        refine hK _ _ ⟨⟨_, HB3.out⟩, rfl⟩ ?_
        clear hK K CX hqx hmx hbx
        refine wpAnyH_one (i := 6) (by kernel_rfl) rfl (fun K hK => ?_)
        have CX := HCS.out W3 HB3.out
        go_simp
        refine CX.mono ?_
        rintro e W4 ⟨qvS, mvS, rfl, hqx, hmx, hbx⟩
        obtain ⟨qaS, qcS, rfl, -⟩ := id hqx
        obtain ⟨maS, mcS, rfl, -⟩ := id hmx
        have HB4 := Lib.hid (HB3.out.trans (hbx.mono HB3.out.size))
        replace FN := Lib.hid (And.intro (FN.out.1.below hbx) (FN.out.2.below hbx))
        replace F15 := Lib.hid (keptG hbx F15.out)
        replace F16 := Lib.hid (keptG hbx F16.out)
        have FS := Lib.hid (And.intro hqx hmx)
        refine hK _ _ ⟨⟨_, HB4.out⟩, rfl⟩ ?_
        clear hK K CX hqx hmx hbx
        have hne : b15 ≠ b16 := by first | exact HNE.out | exact fun e => HNE.out e.symm
        obtain ⟨e16, HB9, WX, hWX, HBX, HG15, HG16⟩ := both_stored (on := on) (s := nS) (t := tS) F15.out F16.out hne FN.out.1 FN.out.2 FS.out.1 FS.out.2 HB4.out HL15.out HL16.out
        obtain ⟨r0, r1, r2⟩ := gcells F15.out
        have s0 := is_some r0
        have s1 := is_some r1
        have s2 := is_some r2
        have f0 := heap_free F15.out 0
        have f1 := heap_free F15.out 1
        have f2 := heap_free F15.out 2
        obtain ⟨W9, hW9⟩ : ∃ W9, W9 = set3 W4 b15 (.bool on) (.slice qaN nS.1.length qcN) (.slice maN nS.2.length mcN) := ⟨_, rfl⟩
        rw [← hW9] at e16 HB9 hWX
        unfold set3 at hW9
        refine wpAnyH_one (i := 9) (by kernel_rfl) rfl (fun K hK => ?_)
        go_simp
        rw [← hW9]
        refine hK _ _ ⟨⟨_, HB9⟩, rfl⟩ ?_
        clear hK K r0 r1 r2 s0 s1 s2 f0 f1 f2 hW9 FN FS F15 F16
        obtain ⟨r0, r1, r2⟩ := gcells e16
        have s0 := is_some r0
        have s1 := is_some r1
        have s2 := is_some r2
        have f0 := heap_free e16 0
        have f1 := heap_free e16 1
        have f2 := heap_free e16 2
        unfold set3 at hWX
        refine wpAnyH_one (i := 10) (by kernel_rfl) rfl (fun K hK => ?_)
        go_simp
        rw [← hWX]
        refine hK _ _ ⟨⟨_, HBX⟩, rfl⟩ ?_
        clear hK K r0 r1 r2 s0 s1 s2 f0 f1 f2 hWX
        (refine wpAnyH_done (by kernel_rfl) ?_ _)
        go_wp2
        go_meet
        case rel => exact ⟨b15, b16, WX, rfl, rfl, rfl, HG15, HG16, HBX⟩
  case rest =>
  obtain ⟨b15, b16, wk, rfl, rfl, rfl, HC9, HD9, hb9⟩ := hcut
  have HBWK := Lib.hid (HBW7.out.trans (hb9.mono HBW7.out.size))
  have HGK := Lib.hid (keptG hb9 HG7.out)
  obtain ⟨qc1, qc2', mc1, mc2', h15, hrq, hrm⟩ := HC9
  obtain ⟨qd1, qd2, md1, md2, h16, hsq, hsm⟩ := HD9
  have HRQ := Lib.hid hrq
  have HRM := Lib.hid hrm
  have HSQ := Lib.hid hsq
  have HSM2 := Lib.hid hsm
  have HLN := Lib.hid (show nS.1.length ≤ 1000 ∧ nS.2.length ≤ 1000 from by
    rw [HNS.out]
    have h1 := noteQ_len' on q m key
    have h2 := noteM_len' on m key
    exact ⟨by simp only; omega, by simp only; omega⟩)
  have HLT := Lib.hid (show tS.1.length ≤ 1000 ∧ tS.2.length ≤ 1000 from by
    rw [HTS.out]
    have h1 := steps_few (o := o) (n := n) HFI.out
    have h2 := HSM.out.1.tot
    simp only at h1
    exact ⟨by omega, by omega⟩)
  obtain ⟨hln1, hln2⟩ := HLN.out
  obtain ⟨hlt1, hlt2⟩ := HLT.out
  obtain ⟨y0, y1, y2⟩ := gcells HGK.out
  obtain ⟨c0, c1, c2⟩ := gcells h15
  obtain ⟨d0, d1, d2⟩ := gcells h16
  have ly0 := LaterOf.cell y0
  have ly1 := LaterOf.cell y1
  have ly2 := LaterOf.cell y2
  have lc0 := LaterOf.cell c0
  have lc1 := LaterOf.cell c1
  have lc2 := LaterOf.cell c2
  have ld0 := LaterOf.cell d0
  have ld1 := LaterOf.cell d1
  have ld2 := LaterOf.cell d2
  have hdd : ((doneB on q) == (doneB on q)) = true := by simp
  have HF1 := Lib.hid (show fitG on nS.1 nS.2 = true by rw [HNS.out]; exact fitG_note HFG.out)
  have HF2 := Lib.hid (show fitG on tS.1 tS.2 = true by rw [HTS.out]; exact fitG_steps HFG.out)
  have HON := Lib.hid (fitG_on HFG.out)
  have CRN := fun (p : LaterOf wk) => rnote20_walk on (.slice qa q.length qc) (.slice ma m.length mc) q m key p.world ((HQ.out.below HBWK.out).below p.below) ((HM.out.below HBWK.out).below p.below) (by omega) (by omega) HFI.out.up
  have CRS := fun (p : LaterOf wk) => rstep20_walk on (.slice qa q.length qc) (.slice ma m.length mc) ov q m o z n HZ.out p.world HON.out ((HQ.out.below HBWK.out).below p.below) ((HM.out.below HBWK.out).below p.below) ((HO.out.below HBWK.out).below p.below) HOL.out HRAW.out HFI.out HFEW.out
  have CD1 := fun (p : LaterOf wk) => doneG_walk on (.slice qa q.length qc) (.slice ma m.length mc) q p.world ((HQ.out.below HBWK.out).below p.below) ⟨_, _, _, rfl⟩
  have CD2 := fun (p : LaterOf wk) => rdone20_walk on (.slice qa q.length qc) (.slice ma m.length mc) q p.world ((HQ.out.below HBWK.out).below p.below) ⟨_, _, _, rfl⟩
  have CF1 := fun (p : LaterOf wk) => rfitx20_walk on (.slice qc1 nS.1.length qc2') (.slice mc1 nS.2.length mc2') nS.1 nS.2 p.world (HRQ.out.below p.below) (HRM.out.below p.below) HLN.out.1 HLN.out.2
  have CF2 := fun (p : LaterOf wk) => rfitx20_walk on (.slice qd1 tS.1.length qd2) (.slice md1 tS.2.length md2) tS.1 tS.2 p.world (HSQ.out.below p.below) (HSM2.out.below p.below) HLT.out.1 HLT.out.2
  rw [HF1.out] at CF1
  rw [HF2.out] at CF2
  unfold NoteLPost at CRN
  unfold StepPost at CRS
  rw [← HTS.out] at CRS
  rw [show noteQ on q m key = nS.1 by rw [HNS.out], show noteM on m key = nS.2 by rw [HNS.out]] at CRN
  generalize doneB on q = dn at *
  clear hb9 y0 y1 y2 c0 c1 c2 d0 d1 d2 hrq hrm hsq hsm h15 h16
  go_upto_region 9 with fail
  (refine wp_held (by kernel_rfl) ?_; intro lw)
  (refine wpAnyH_take (i := 0) (v := ?_) rfl (by kernel_rfl) (by kernel_rfl) (by kernel_rfl) (fun _ _ _ h => h) (Or.inl ⟨by rfl, ?_⟩) ⟨_, rfl⟩ ?_; rotate_left; (intro w9 hS9; obtain ⟨p9, hp9⟩ := hS9; subst hp9; go_simp; try with_reducible rfl))
  (refine wpAnyH_take (i := 1) (v := ?_) rfl (by kernel_rfl) (by kernel_rfl) (by kernel_rfl) (fun _ _ _ h => h) (Or.inl ⟨by rfl, ?_⟩) ⟨_, rfl⟩ ?_; rotate_left; (intro w9 hS9; obtain ⟨p9, hp9⟩ := hS9; subst hp9; go_simp; try with_reducible rfl))
  (refine wpAnyH_take (i := 2) (v := ?_) rfl (by kernel_rfl) (by kernel_rfl) (by kernel_rfl) (fun _ _ _ h => h) (Or.inl ⟨by rfl, ?_⟩) ⟨_, rfl⟩ ?_; rotate_left; (intro w9 hS9; obtain ⟨p9, hp9⟩ := hS9; subst hp9; go_simp; try with_reducible rfl))
  go_simp
  have CX := CRN lw
  (refine wpAnyH_one (i := 3) (by kernel_rfl) rfl (fun K hK => ?_); go_simp; refine (CX).mono ?_; rintro e wz ⟨qz, mz, rfl, hqz, hmz, hbz⟩; (obtain ⟨lw3, rfl⟩ : ∃ p : LaterOf _, wz = p.world := ⟨⟨wz, below_chain lw.below hbz lw.below.size⟩, rfl⟩); refine hK _ _ ⟨lw3, rfl⟩ ?_; clear hK K)
  have HQZ := Lib.hid hqz
  have HMZ := Lib.hid hmz
  obtain ⟨za, zc, rfl, -⟩ := hqz
  obtain ⟨zb, zd, rfl, -⟩ := hmz
  clear CX
  have CX := rsame20_walk on (.slice qc1 nS.1.length qc2') (.slice mc1 nS.2.length mc2') (.slice za nS.1.length zc) (.slice zb nS.2.length zd) nS.1 nS.2 lw3.world (HRQ.out.below lw3.below) (HRM.out.below lw3.below) HQZ.out HMZ.out (by omega) (by omega)
  (refine wpAnyH_one (i := 4) (by kernel_rfl) rfl (fun K hK => ?_); go_simp; refine (CX).mono ?_; rintro e wz ⟨rfl, hbz⟩; (obtain ⟨lw4, rfl⟩ : ∃ p : LaterOf _, wz = p.world := ⟨⟨wz, below_chain lw3.below hbz lw3.below.size⟩, rfl⟩); refine hK _ _ ⟨lw4, rfl⟩ ?_; clear hK K)
  clear CX
  (refine wpAnyH_one (i := 5) (by kernel_rfl) rfl (fun K hK => ?_); go_simp; refine hK _ _ ⟨_, rfl⟩ ?_; clear hK K)
  (refine wpAnyH_take (i := 6) (v := ?_) rfl (by kernel_rfl) (by kernel_rfl) (by kernel_rfl) (fun _ _ _ h => h) (Or.inl ⟨by rfl, ?_⟩) ⟨_, rfl⟩ ?_; rotate_left; (intro w9 hS9; obtain ⟨p9, hp9⟩ := hS9; subst hp9; go_simp; try with_reducible rfl))
  (refine wpAnyH_take (i := 7) (v := ?_) rfl (by kernel_rfl) (by kernel_rfl) (by kernel_rfl) (fun _ _ _ h => h) (Or.inl ⟨by rfl, ?_⟩) ⟨_, rfl⟩ ?_; rotate_left; (intro w9 hS9; obtain ⟨p9, hp9⟩ := hS9; subst hp9; go_simp; try with_reducible rfl))
  (refine wpAnyH_take (i := 8) (v := ?_) rfl (by kernel_rfl) (by kernel_rfl) (by kernel_rfl) (fun _ _ _ h => h) (Or.inl ⟨by rfl, ?_⟩) ⟨_, rfl⟩ ?_; rotate_left; (intro w9 hS9; obtain ⟨p9, hp9⟩ := hS9; subst hp9; go_simp; try with_reducible rfl))
  (refine wpAnyH_take (i := 9) (v := ?_) rfl (by kernel_rfl) (by kernel_rfl) (by kernel_rfl) (fun _ _ _ h => h) (Or.inl ⟨by rfl, ?_⟩) ⟨_, rfl⟩ ?_; rotate_left; (intro w9 hS9; obtain ⟨p9, hp9⟩ := hS9; subst hp9; go_simp; try with_reducible rfl))
  go_simp
  have CX := CRS lw4
  (refine wpAnyH_one (i := 10) (by kernel_rfl) rfl (fun K hK => ?_); go_simp; refine (CX).mono ?_; rintro e wz ⟨qw, mw, rfl, hqw, hmw, hbz⟩; (obtain ⟨lw5, rfl⟩ : ∃ p : LaterOf _, wz = p.world := ⟨⟨wz, below_chain lw4.below hbz lw4.below.size⟩, rfl⟩); refine hK _ _ ⟨lw5, rfl⟩ ?_; clear hK K)
  have HQW := Lib.hid hqw
  have HMW := Lib.hid hmw
  obtain ⟨wa, wc, rfl, -⟩ := hqw
  obtain ⟨wb, wd, rfl, -⟩ := hmw
  clear CX
  have CX := rsame20_walk on (.slice qd1 tS.1.length qd2) (.slice md1 tS.2.length md2) (.slice wa tS.1.length wc) (.slice wb tS.2.length wd) tS.1 tS.2 lw5.world (HSQ.out.below lw5.below) (HSM2.out.below lw5.below) HQW.out HMW.out (by omega) (by omega)
  (refine wpAnyH_one (i := 11) (by kernel_rfl) rfl (fun K hK => ?_); go_simp; refine (CX).mono ?_; rintro e wz ⟨rfl, hbz⟩; (obtain ⟨lw6, rfl⟩ : ∃ p : LaterOf _, wz = p.world := ⟨⟨wz, below_chain lw5.below hbz lw5.below.size⟩, rfl⟩); refine hK _ _ ⟨lw6, rfl⟩ ?_; clear hK K)
  clear CX
  (refine wpAnyH_one (i := 12) (by kernel_rfl) rfl (fun K hK => ?_); go_simp; refine hK _ _ ⟨_, rfl⟩ ?_; clear hK K)
  (refine wpAnyH_one (i := 13) (by kernel_rfl) rfl (fun K hK => ?_); go_simp; refine hK _ _ ⟨_, rfl⟩ ?_; clear hK K)
  (refine wpAnyH_take (i := 14) (v := ?_) rfl (by kernel_rfl) (by kernel_rfl) (by kernel_rfl) (fun _ _ _ h => h) (Or.inl ⟨by rfl, ?_⟩) ⟨_, rfl⟩ ?_; rotate_left; (intro w9 hS9; obtain ⟨p9, hp9⟩ := hS9; subst hp9; go_simp; try with_reducible rfl))
  (refine wpAnyH_take (i := 16) (v := ?_) rfl (by kernel_rfl) (by kernel_rfl) (by kernel_rfl) (fun _ _ _ h => h) (Or.inl ⟨by rfl, ?_⟩) ⟨_, rfl⟩ ?_; rotate_left; (intro w9 hS9; obtain ⟨p9, hp9⟩ := hS9; subst hp9; go_simp; try with_reducible rfl))
  go_simp
  have CX := CD1 lw6
  (refine wpAnyH_one (i := 15) (by kernel_rfl) rfl (fun K hK => ?_); go_simp; refine (CX).mono ?_; rintro e wz ⟨rfl, hbz⟩; (obtain ⟨lw7, rfl⟩ : ∃ p : LaterOf _, wz = p.world := ⟨⟨wz, below_chain lw6.below hbz lw6.below.size⟩, rfl⟩); refine hK _ _ ⟨lw7, rfl⟩ ?_; clear hK K)
  clear CX
  have CX := CD2 lw7
  (refine wpAnyH_one (i := 17) (by kernel_rfl) rfl (fun K hK => ?_); go_simp; refine (CX).mono ?_; rintro e wz ⟨rfl, hbz⟩; (obtain ⟨lw8, rfl⟩ : ∃ p : LaterOf _, wz = p.world := ⟨⟨wz, below_chain lw7.below hbz lw7.below.size⟩, rfl⟩); refine hK _ _ ⟨lw8, rfl⟩ ?_; clear hK K)
  clear CX
  (refine wpAnyH_one (i := 18) (by kernel_rfl) rfl (fun K hK => ?_); go_simp; refine hK _ _ ⟨_, rfl⟩ ?_; clear hK K)
  try rw [hdd]
  (refine wpAnyH_one (i := 19) (by kernel_rfl) rfl (fun K hK => ?_); go_simp; refine hK _ _ ⟨_, rfl⟩ ?_; clear hK K)
  (refine wpAnyH_one (i := 20) (by kernel_rfl) rfl (fun K hK => ?_); go_simp; refine hK _ _ ⟨_, rfl⟩ ?_; clear hK K)
  (refine wpAnyH_take (i := 21) (v := ?_) rfl (by kernel_rfl) (by kernel_rfl) (by kernel_rfl) (fun _ _ _ h => h) (Or.inl ⟨by rfl, ?_⟩) ⟨_, rfl⟩ ?_; rotate_left; (intro w9 hS9; obtain ⟨p9, hp9⟩ := hS9; subst hp9; go_simp; try with_reducible rfl))
  go_simp
  have CX := CF1 lw8
  (refine wpAnyH_one (i := 22) (by kernel_rfl) rfl (fun K hK => ?_); go_simp; refine (CX).mono ?_; rintro e wz ⟨rfl, hbz⟩; (obtain ⟨lw9, rfl⟩ : ∃ p : LaterOf _, wz = p.world := ⟨⟨wz, below_chain lw8.below hbz lw8.below.size⟩, rfl⟩); refine hK _ _ ⟨lw9, rfl⟩ ?_; clear hK K)
  clear CX
  (refine wpAnyH_one (i := 23) (by kernel_rfl) rfl (fun K hK => ?_); go_simp; refine hK _ _ ⟨_, rfl⟩ ?_; clear hK K)
  (refine wpAnyH_one (i := 24) (by kernel_rfl) rfl (fun K hK => ?_); go_simp; refine hK _ _ ⟨_, rfl⟩ ?_; clear hK K)
  (refine wpAnyH_take (i := 25) (v := ?_) rfl (by kernel_rfl) (by kernel_rfl) (by kernel_rfl) (fun _ _ _ h => h) (Or.inl ⟨by rfl, ?_⟩) ⟨_, rfl⟩ ?_; rotate_left; (intro w9 hS9; obtain ⟨p9, hp9⟩ := hS9; subst hp9; go_simp; try with_reducible rfl))
  go_simp
  have CX := CF2 lw9
  (refine wpAnyH_one (i := 26) (by kernel_rfl) rfl (fun K hK => ?_); go_simp; refine (CX).mono ?_; rintro e wz ⟨rfl, hbz⟩; (obtain ⟨lw10, rfl⟩ : ∃ p : LaterOf _, wz = p.world := ⟨⟨wz, below_chain lw9.below hbz lw9.below.size⟩, rfl⟩); refine hK _ _ ⟨lw10, rfl⟩ ?_; clear hK K)
  clear CX
  (refine wpAnyH_one (i := 27) (by kernel_rfl) rfl (fun K hK => ?_); go_simp; refine hK _ _ ⟨_, rfl⟩ ?_; clear hK K)
  (refine wpAnyH_one (i := 28) (by kernel_rfl) rfl (fun K hK => ?_); go_simp; refine hK _ _ ⟨_, rfl⟩ ?_; clear hK K)
  have CX := awake20_walk lw10.world
  (refine wpAnyH_one (i := 29) (by kernel_rfl) rfl (fun K hK => ?_); go_simp; refine (CX).mono ?_; rintro e wz ⟨rfl, hbz⟩; (obtain ⟨lw11, rfl⟩ : ∃ p : LaterOf _, wz = p.world := ⟨⟨wz, below_chain lw10.below hbz lw10.below.size⟩, rfl⟩); refine hK _ _ ⟨lw11, rfl⟩ ?_; clear hK K)
  clear CX
  (refine wpAnyH_one (i := 30) (by kernel_rfl) rfl (fun K hK => ?_); go_simp; refine hK _ _ ⟨_, rfl⟩ ?_; clear hK K)
  (refine wpAnyH_one (i := 31) (by kernel_rfl) rfl (fun K hK => ?_); go_simp; refine hK _ _ ⟨_, rfl⟩ ?_; clear hK K)
  (refine wpAnyH_done (by kernel_rfl) ?_ _)
  go_wp2
  have HBE := HBWK.out.trans (lw11.below.mono HBWK.out.size)
  go_ret
  exact ⟨rfl, HBE⟩
end Go.Proofs.YtengciicdnkgaaaGreatDoor
