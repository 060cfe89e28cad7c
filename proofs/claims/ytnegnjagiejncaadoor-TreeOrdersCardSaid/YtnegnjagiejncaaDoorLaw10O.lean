/- Chapter 10: two files put in in either order. -/
import Derived.Test.YtnegnjagiejncaaDoorLaw10D
namespace Go.Proofs.YtnegnjagiejncaaDoor
open Go.RowKit

theorem it_row_two (w : World) (x y : Itm) : ItRow (w.alloc (.cells #[S x.1, .bool x.2.1, .bool x.2.2.1, S x.2.2.2, S y.1, .bool y.2.1, .bool y.2.2.1, S y.2.2.2] 32)) (.slice (some ⟨w.heap.size, 0, none⟩) 2 2) [x, y] := by
  refine ⟨_, _, rfl, Nat.le_refl _, by unfold maxLen; omega, .inr ⟨_, _, rfl, ?_⟩⟩
  intro j z hz i u hu
  match j, hz with
  | 0, hz =>
    simp at hz; subst hz
    match i, hu with
    | 0, hu => simp at hu; subst hu; exact cell_new w _ _ _ rfl
    | 1, hu => simp at hu; subst hu; exact cell_new w _ _ _ rfl
    | 2, hu => simp at hu; subst hu; exact cell_new w _ _ _ rfl
    | 3, hu => simp at hu; subst hu; exact cell_new w _ _ _ rfl
  | 1, hz =>
    simp at hz; subst hz
    match i, hu with
    | 0, hu => simp at hu; subst hu; exact cell_new w _ _ _ rfl
    | 1, hu => simp at hu; subst hu; exact cell_new w _ _ _ rfl
    | 2, hu => simp at hu; subst hu; exact cell_new w _ _ _ rfl
    | 3, hu => simp at hu; subst hu; exact cell_new w _ _ _ rfl
theorem oldT_def (l : List Itm) (p : List UInt8) : ((findT l p).getD zItm).2.2.2.length = oldT l p := by
  unfold oldT
  cases findT l p <;> rfl
/-- Two put in one after the other. -/
theorem two_puts {l : List Itm} {x y : Itm} (hu : upT (l.map (·.1))) (hne : x.1 ≠ y.1) (h1 : (putT l x).2 = 0) (h2 : (putT (putT l x).1 y).2 = 0) (h3 : (putT l y).2 = 0) (h4 : (putT (putT l y).1 x).2 = 0) :
    (putT (putT l x).1 y).1 = (putT (putT l y).1 x).1 ∧ sizeT (putT l x).1 + oldT l x.1 = sizeT l + x.2.2.2.length := by
  have ok : ∀ {l : List Itm} {x : Itm}, (putT l x).2 = 0 → (putT l x).1 = withT l x := by
    intro l x h
    unfold putT at h ⊢
    split
    · rfl
    · rename_i hw; rw [if_neg hw] at h; exact absurd h hw
  rw [ok h2, ok h4, ok h1, ok h3]
  exact ⟨withT_swap hu hne, sizeT_with hu⟩

set_option maxHeartbeats 4000000 in
set_option maxRecDepth 100000 in
theorem torders_walk (v : Value) (l : List Itm) (x y : Itm) (w : World) (hM : Mx w) (hr : ItRow w v l) :
    Calls Tryd.prog 6 #[v, ItV x, ItV y] w fun e w' => e = .returned (.bool true) ∧ Below w.heap.size w w' := by
  have hB0 : Below w.heap.size w ((w.alloc (.cells #[S x.1, .bool x.2.1, .bool x.2.2.1, S x.2.2.2] 32)).alloc (.cells #[S y.1, .bool y.2.1, .bool y.2.2.1, S y.2.2.2] 32)) := ((Below.refl _ _).alloc (Nat.le_refl _) _).alloc (by simp) _
  obtain ⟨w1, hw1, hB1, hr0, hy0⟩ : ∃ w1, w1 = (w.alloc (.cells #[S x.1, .bool x.2.1, .bool x.2.2.1, S x.2.2.2] 32)).alloc (.cells #[S y.1, .bool y.2.1, .bool y.2.2.1, S y.2.2.2] 32) ∧ Below w.heap.size w w1 ∧ w1.heap[w.heap.size]? = some (.cells #[S x.1, .bool x.2.1, .bool x.2.2.1, S x.2.2.2] 32 (0, 0)) ∧ w1.heap[w.heap.size + 1]? = some (.cells #[S y.1, .bool y.2.1, .bool y.2.2.1, S y.2.2.2] 32 (0, 0)) :=
    ⟨_, rfl, hB0, heap_later (heap_alloc_new _ _) ((Below.refl _ _).alloc (Nat.le_refl _) _) (by simp), by simpa only [World.size_alloc] using heap_alloc_new (w.alloc (.cells #[S x.1, .bool x.2.1, .bool x.2.2.1, S x.2.2.2] 32)) (.cells #[S y.1, .bool y.2.1, .bool y.2.2.1, S y.2.2.2] 32)⟩
  obtain ⟨⟨r0, r1, r2, r3⟩, -, -⟩ := box4 hr0
  obtain ⟨⟨s0, s1, s2, s3⟩, -, -⟩ := box4 hy0
  clear hr0 hy0 hB0
  have HR := Lib.hid hr
  have HM := Lib.hid hM
  have HTWO := Lib.hid (fun hu hne h1 h2 h3 h4 => two_puts (l := l) (x := x) (y := y) hu hne h1 h2 h3 h4)
  have HOLD := Lib.hid (oldT_def l x.1)
  obtain ⟨p, dd, ex, dt⟩ := x
  obtain ⟨p2, dd2, ex2, dt2⟩ := y
  simp only at r0 r1 r2 r3 s0 s1 s2 s3 hw1 HTWO HOLD
  obtain ⟨a, c, rfl, hc, hm, hx⟩ := hr
  clear hx hM
  go_enter Tryd.func6, Tryd.ntmps6
  go_upto_region 1 with fail
  rw [← hw1]
  clear hw1
  go_cut [46] from 17 (fun s w' => ∃ q, s = .bool q ∧ (q = false → Small10 l ∧ FitT l ∧ p.length ≤ 1000000 ∧ dt.length ≤ 40000 ∧ p2.length ≤ 1000000 ∧ dt2.length ≤ 40000 ∧ p ≠ p2) ∧ Below w1.heap.size w1 w')
  case first =>
    have C1 := few10_walk _ l w1 (HR.out.below hB1)
    go_wp2_with fail
    refine C1.mono ?_
    rintro e w2 ⟨rfl, hb2⟩
    have x0 := cell_below hb2 r0
    have x1 := cell_below hb2 r1
    have x2 := cell_below hb2 r2
    have x3 := cell_below hb2 r3
    have y0 := cell_below hb2 s0
    have y1 := cell_below hb2 s1
    have y2 := cell_below hb2 s2
    have y3 := cell_below hb2 s3
    cases hf1 : fewT l with
    | false =>
      go_wp2
      go_meet
      case rel => exact ⟨true, rfl, (fun h => by cases h), hb2⟩
    | true =>
    have HSM := Lib.hid (Small10.of_few hf1)
    clear hf1 C1
    have hba := hb2.alloc hb2.size (.cells #[S p, .bool dd, .bool ex, S dt, S p2, .bool dd2, .bool ex2, S dt2] 32)
    have C2 := few10_walk _ [(p, dd, ex, dt), (p2, dd2, ex2, dt2)] _ (it_row_two w2 (p, dd, ex, dt) (p2, dd2, ex2, dt2))
    go_wp2_with fail
    refine C2.mono ?_
    rintro e w3 ⟨rfl, hb3⟩
    have hB3 := below_chain hba hb3 hba.size
    cases hf2 : fewT [(p, dd, ex, dt), (p2, dd2, ex2, dt2)] with
    | false =>
      go_wp2
      go_meet
      case rel => exact ⟨true, rfl, (fun h => by cases h), hB3⟩
    | true =>
    have HSX := Lib.hid (show p.length ≤ 1000000 ∧ dt.length ≤ 40000 ∧ p2.length ≤ 1000000 ∧ dt2.length ≤ 40000 by
      obtain ⟨_, h2⟩ := fewT_parts hf2
      have h3 := h2 (p, dd, ex, dt) (by simp)
      have h4 := h2 (p2, dd2, ex2, dt2) (by simp)
      simp only at h3 h4
      omega)
    clear hf2 C2 hb2 hb3 hba
    have hsm := HSM.out
    have C3 := r10fit_walk _ l w3 ((HR.out.below hB1).below hB3) (by have := hsm.len; omega) (by have := hsm.size; omega) hsm.path
    clear hsm
    have HF := Lib.hid (fun h : fitTB l = true => fitTB_iff.1 h)
    generalize fitTB l = fb at *
    go_wp2_with fail
    refine C3.mono ?_
    rintro e w4 ⟨rfl, hb4⟩
    have hB4 := below_chain hB3 hb4 hB3.size
    have z0 := cell_below hB4 r0
    have z1 := cell_below hB4 r1
    have t0 := cell_below hB4 s0
    have t1 := cell_below hB4 s1
    clear r0 r1 r2 r3 s0 s1 s2 s3 x0 x1 x2 x3 y0 y1 y2 y3 hb4
    cases fb with
    | false =>
      go_wp2
      go_meet
      case rel => exact ⟨true, rfl, (fun h => by cases h), hB4⟩
    | true =>
    have HF2 := Lib.hid (HF.out rfl)
    clear HF C3
    cases dd with
    | true =>
      go_wp2
      go_meet
      case rel => exact ⟨true, rfl, (fun h => by cases h), hB4⟩
    | false =>
    cases dd2 with
    | true =>
      go_wp2
      go_meet
      case rel => exact ⟨true, rfl, (fun h => by cases h), hB4⟩
    | false =>
    cases hpp : (p == p2) with
    | true =>
      go_wp2
      go_meet
      case rel => exact ⟨true, by first | rfl | rw [hpp], (fun h => by cases h), hB4⟩
    | false =>
      go_wp2
      go_meet
      case rel =>
        have h := HSX.out
        exact ⟨false, by first | rfl | rw [hpp], (fun _ => ⟨HSM.out, HF2.out, h.1, h.2.1, h.2.2.1, h.2.2.2, by rwa [beq_eq_false_iff_ne] at hpp⟩), hB4⟩
  case rest =>
  obtain ⟨q, rfl, hq, hb2⟩ := hcut
  rename_i w2
  (replace r0 := cell_below hb2 r0; replace r1 := cell_below hb2 r1; replace r2 := cell_below hb2 r2; replace r3 := cell_below hb2 r3; replace s0 := cell_below hb2 s0; replace s1 := cell_below hb2 s1; replace s2 := cell_below hb2 s2; replace s3 := cell_below hb2 s3; replace hB1 := below_chain hB1 hb2 hB1.size; clear hb2)
  cases q with
  | true =>
    go_wp2_with (go_at_call 17; refine (awake10_walk _ (HM.out.below hB1)).mono ?_; rintro e w3 ⟨rfl, hb3⟩)
    go_ret
    exact ⟨rfl, below_chain hB1 hb3 hB1.size⟩
  | false =>
  obtain ⟨hsm, hfit, hp, hdt, hp2, hdt2, hne⟩ := hq rfl
  clear hq
  have hup := hfit.up
  have hl := hsm.len
  have HSM := Lib.hid hsm
  have HSA := Lib.hid (hsm.put (x := (p, dd, ex, dt)) hfit hp)
  have HFA := Lib.hid (putT_fit (x := (p, dd, ex, dt)) hfit)
  have HSC := Lib.hid (hsm.put (x := (p2, dd2, ex2, dt2)) hfit hp2)
  have HFC := Lib.hid (putT_fit (x := (p2, dd2, ex2, dt2)) hfit)
  have HSB := Lib.hid (HSA.out.put (x := (p2, dd2, ex2, dt2)) HFA.out hp2)
  have HSD := Lib.hid (HSC.out.put (x := (p, dd, ex, dt)) HFC.out hp)
  have HTW := Lib.hid (HTWO.out hup hne)
  clear HTWO
  have C1 := fun W h hM => pput10_walk (.slice a l.length c) l (p, dd, ex, dt) W h (by omega) hup hsm.size hM hsm.path hp (by simp only; omega)
  have C2 := fun va W h hM => pput10_walk va (putT l (p, dd, ex, dt)).1 (p2, dd2, ex2, dt2) W h (by have := HSA.out.len; omega) HFA.out.up HSA.out.size hM HSA.out.path hp2 (by simp only; omega)
  have C3 := fun W h hM => pput10_walk (.slice a l.length c) l (p2, dd2, ex2, dt2) W h (by omega) hup hsm.size hM hsm.path hp2 (by simp only; omega)
  have C4 := fun va W h hM => pput10_walk va (putT l (p2, dd2, ex2, dt2)).1 (p, dd, ex, dt) W h (by have := HSC.out.len; omega) HFC.out.up HSC.out.size hM HSC.out.path hp (by simp only; omega)
  have CF := fun W h hM => pfind10_walk (.slice a l.length c) l p W h (by omega) hup hM hp hsm.path
  clear hup hfit hsm hne
  generalize putT (putT l (p, dd, ex, dt)).1 (p2, dd2, ex2, dt2) = pb at *
  generalize putT (putT l (p2, dd2, ex2, dt2)).1 (p, dd, ex, dt) = pd at *
  generalize putT l (p, dd, ex, dt) = pa at *
  generalize putT l (p2, dd2, ex2, dt2) = pc at *
  obtain ⟨m1, e1⟩ := pa
  obtain ⟨m2, e2⟩ := pb
  obtain ⟨m3, e3⟩ := pc
  obtain ⟨m4, e4⟩ := pd
  simp only at C1 C2 C3 C4 HFA HFC HSA HSB HSC HSD HTW
  go_wp2_with fail
  refine (C1 _ (HR.out.below hB1) (HM.out.below hB1)).mono ?_
  rintro e w3 ⟨va, rfl, hra, hb3⟩
  clear C1
  (replace r0 := cell_below hb3 r0; replace r1 := cell_below hb3 r1; replace r2 := cell_below hb3 r2; replace r3 := cell_below hb3 r3; replace s0 := cell_below hb3 s0; replace s1 := cell_below hb3 s1; replace s2 := cell_below hb3 s2; replace s3 := cell_below hb3 s3; replace hB1 := below_chain hB1 hb3 hB1.size; clear hb3)
  go_wp2_with fail
  refine (C2 _ _ hra (HM.out.below hB1)).mono ?_
  rintro e w4 ⟨vb, rfl, hrb, hb4⟩
  clear C2
  replace hra := hra.below hb4
  (replace r0 := cell_below hb4 r0; replace r1 := cell_below hb4 r1; replace r2 := cell_below hb4 r2; replace r3 := cell_below hb4 r3; replace s0 := cell_below hb4 s0; replace s1 := cell_below hb4 s1; replace s2 := cell_below hb4 s2; replace s3 := cell_below hb4 s3; replace hB1 := below_chain hB1 hb4 hB1.size; clear hb4)
  go_wp2_with fail
  refine (C3 _ (HR.out.below hB1) (HM.out.below hB1)).mono ?_
  rintro e w5 ⟨vc, rfl, hrc, hb5⟩
  clear C3
  replace hra := hra.below hb5
  replace hrb := hrb.below hb5
  (replace r0 := cell_below hb5 r0; replace r1 := cell_below hb5 r1; replace r2 := cell_below hb5 r2; replace r3 := cell_below hb5 r3; replace s0 := cell_below hb5 s0; replace s1 := cell_below hb5 s1; replace s2 := cell_below hb5 s2; replace s3 := cell_below hb5 s3; replace hB1 := below_chain hB1 hb5 hB1.size; clear hb5)
  go_wp2_with fail
  refine (C4 _ _ hrc (HM.out.below hB1)).mono ?_
  rintro e w6 ⟨vd, rfl, hrd, hb6⟩
  clear C4 hrc
  replace hra := hra.below hb6
  replace hrb := hrb.below hb6
  (replace r0 := cell_below hb6 r0; replace r1 := cell_below hb6 r1; replace r2 := cell_below hb6 r2; replace r3 := cell_below hb6 r3; replace s0 := cell_below hb6 s0; replace s1 := cell_below hb6 s1; replace s2 := cell_below hb6 s2; replace s3 := cell_below hb6 s3; replace hB1 := below_chain hB1 hb6 hB1.size; clear hb6)
  go_upto_region 7 with fail
  go_cut [85] from 17 (fun s w' => ∃ q, s = .bool q ∧ (q = false → e1 = 0 ∧ e2 = 0 ∧ e3 = 0 ∧ e4 = 0) ∧ w6 = w')
  case first =>
    by_cases h1 : e1 = 0
    · by_cases h2 : e2 = 0
      · by_cases h3 : e3 = 0
        · by_cases h4 : e4 = 0
          · have g1 : (e1 != 0) = false := by rw [bne_eq_false_iff_eq]; exact h1
            have g2 : (e2 != 0) = false := by rw [bne_eq_false_iff_eq]; exact h2
            have g3 : (e3 != 0) = false := by rw [bne_eq_false_iff_eq]; exact h3
            have g4 : (e4 != 0) = false := by rw [bne_eq_false_iff_eq]; exact h4
            have HH := Lib.hid (show e1 = 0 ∧ e2 = 0 ∧ e3 = 0 ∧ e4 = 0 from ⟨h1, h2, h3, h4⟩)
            clear h1 h2 h3 h4
            go_wp2
            go_meet
            case rel => exact ⟨false, by first | rfl | rw [g4], (fun _ => HH.out), rfl⟩
          · have g1 : (e1 != 0) = false := by rw [bne_eq_false_iff_eq]; exact h1
            have g2 : (e2 != 0) = false := by rw [bne_eq_false_iff_eq]; exact h2
            have g3 : (e3 != 0) = false := by rw [bne_eq_false_iff_eq]; exact h3
            have g4 : (e4 != 0) = true := by rw [bne_iff_ne]; exact h4
            clear h1 h2 h3 h4
            go_wp2
            go_meet
            case rel => exact ⟨true, by first | rfl | rw [g4], (fun h => by cases h), rfl⟩
        · have g1 : (e1 != 0) = false := by rw [bne_eq_false_iff_eq]; exact h1
          have g2 : (e2 != 0) = false := by rw [bne_eq_false_iff_eq]; exact h2
          have g3 : (e3 != 0) = true := by rw [bne_iff_ne]; exact h3
          clear h1 h2 h3
          go_wp2
          go_meet
          case rel => exact ⟨true, rfl, (fun h => by cases h), rfl⟩
      · have g1 : (e1 != 0) = false := by rw [bne_eq_false_iff_eq]; exact h1
        have g2 : (e2 != 0) = true := by rw [bne_iff_ne]; exact h2
        clear h1 h2
        go_wp2
        go_meet
        case rel => exact ⟨true, rfl, (fun h => by cases h), rfl⟩
    · have g1 : (e1 != 0) = true := by rw [bne_iff_ne]; exact h1
      clear h1
      go_wp2
      go_meet
      case rel => exact ⟨true, rfl, (fun h => by cases h), rfl⟩
  case rest =>
  obtain ⟨q, rfl, hq, rfl⟩ := hcut
  cases q with
  | true =>
    go_wp2_with (go_at_call 17; refine (awake10_walk _ (HM.out.below hB1)).mono ?_; rintro e w7 ⟨rfl, hb7⟩)
    go_ret
    exact ⟨rfl, below_chain hB1 hb7 hB1.size⟩
  | false =>
  obtain ⟨h1, h2, h3, h4⟩ := hq rfl
  obtain ⟨rfl, hsz⟩ := HTW.out h1 h2 h3 h4
  clear hq h1 h2 h3 h4 HTW
  go_wp2_with fail
  refine (CF _ (HR.out.below hB1) (HM.out.below hB1)).mono ?_
  rintro e w7 ⟨rfl, hb7⟩
  clear CF
  replace hra := hra.below hb7
  replace hrb := hrb.below hb7
  replace hrd := hrd.below hb7
  (replace r0 := cell_below hb7 r0; replace r1 := cell_below hb7 r1; replace r2 := cell_below hb7 r2; replace r3 := cell_below hb7 r3; replace hB1 := below_chain hB1 hb7 hB1.size; clear hb7)
  unfold findV
  rw [← HOLD.out] at hsz
  have hol : ((findT l p).getD zItm).2.2.2.length ≤ sizeT l := by
    cases hf : findT l p with
    | none => exact Nat.zero_le _
    | some y => have := sizeT_sub (List.singleton_sublist.2 (findT_mem hf).1); simpa [sizeT] using this
  have hszl := HSM.out.size
  have hsza := HSA.out.size
  clear HOLD
  generalize (findT l p).getD zItm = o at *
  obtain ⟨op, odr, oe, ot⟩ := o
  simp only at hsz hol
  have CSA := fun w h => pSize10_walk va m1 w h (by have := HSA.out.len; omega) (by omega)
  have CSL := fun w h => pSize10_walk (.slice a l.length c) l w h (by omega) (by omega)
  generalize sizeT l = zl at *
  generalize sizeT m1 = za at *
  go_upto_region 10 with fail
  obtain ⟨w8, hw8, hb8, k3⟩ : ∃ w8, w8 = w7.alloc (.cells #[S op, .bool odr, .bool oe, S ot] 32) ∧ Below w7.heap.size w7 w8 ∧ w8.cell? ⟨w7.heap.size, 3, none⟩ = some (S ot) := ⟨_, rfl, (Below.refl _ _).alloc (Nat.le_refl _) _, cell_new w7 _ _ _ rfl⟩
  rw [← hw8]
  clear hw8
  replace hra := hra.below hb8
  replace hrb := hrb.below hb8
  replace hrd := hrd.below hb8
  (replace r0 := cell_below hb8 r0; replace r1 := cell_below hb8 r1; replace r2 := cell_below hb8 r2; replace r3 := cell_below hb8 r3; replace hB1 := below_chain hB1 hb8 hB1.size; clear hb8)
  have q3 := LaterOf.cell r3
  have j3 := LaterOf.cell k3
  have D1 := fun q : LaterOf w8 => r10same_walk vb vd m2 m2 q.world (hrb.below q.below) (hrd.below q.below) (by have := HSB.out.len; omega) (by have := HSB.out.len; omega)
  rw [decide_eq_true rfl] at D1
  have D2 := fun q : LaterOf w8 => CSA q.world (hra.below q.below)
  have D3 := fun q : LaterOf w8 => CSL q.world ((HR.out.below hB1).below q.below)
  have D4 := fun q : LaterOf w8 => awake10_walk q.world ((HM.out.below hB1).below q.below)
  have hwA : IntKind.i64.wrap ((zl : Int) - (ot.length : Int)) = (zl : Int) - (ot.length : Int) := by rw [IntKind.wrap_i64]; omega
  have hwB : IntKind.i64.wrap ((zl : Int) - (ot.length : Int) + (dt.length : Int)) = (zl : Int) - (ot.length : Int) + (dt.length : Int) := by rw [IntKind.wrap_i64]; omega
  have hE : ((za : Int) == (zl : Int) - (ot.length : Int) + (dt.length : Int)) = true := by rw [beq_iff_eq]; omega
  (refine wp_region_later (by kernel_rfl) (by kernel_rfl) ?_; (repeat (go_big_quiet_step (first | (go_at_call 13; exact LaterOf.call _ (D1 _)) | (go_at_call 23; exact LaterOf.call _ (D2 _)) | (go_at_call 23; exact LaterOf.call _ (D3 _)) | (go_at_call 17; exact LaterOf.call _ (D4 _))))); refine wpQuiet_nil ?_; intro _ hw1; obtain ⟨lw, hw2⟩ := hw1; subst hw2)
  go_wp2
  go_ret
  exact ⟨rfl, below_chain hB1 lw.below hB1.size⟩
end Go.Proofs.YtnegnjagiejncaaDoor
