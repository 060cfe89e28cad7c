/- Chapter 10: what was put is found, what was dropped is not. -/
import Derived.Test.YtnegnjagiejncaaDoorLaw10D
namespace Go.Proofs.YtnegnjagiejncaaDoor
open Go.RowKit

theorem belowT_cut {y p : List UInt8} (h : p.length < y.length) : belowT y p = (y.take (p.length + 1) == p ++ [47]) := by
  rw [Bool.eq_iff_iff, belowT_iff, beq_iff_eq]
  constructor
  · rintro ⟨t, rfl⟩
    rw [show p ++ 47 :: t = (p ++ [47]) ++ t by simp, List.take_left' (by simp)]
  · intro e
    refine ⟨y.drop (p.length + 1), ?_⟩
    have := List.take_append_drop (p.length + 1) y
    rw [e] at this
    rw [← this]
    simp
theorem cut_toList (y p : List UInt8) : (({ data := y.toArray } : ByteArray).extract 0 (p.length + 1)).toList = y.take (p.length + 1) ∧ (({ data := p.toArray } : ByteArray) ++ ({ data := #[47] } : ByteArray)).toList = p ++ [47] := by
  refine ⟨by rw [ba_cut, cutL_head, ByteArray.toList_eq], ?_⟩
  rw [show ({ data := #[47] } : ByteArray) = ⟨[47].toArray⟩ from rfl, ba_cat, ByteArray.toList_eq]
theorem belowT_short {y p : List UInt8} (h : ¬ p.length < y.length) : belowT y p = false := by
  unfold belowT; rw [decide_eq_false h]; rfl
/-- What the law asks of a tree with something put in. -/
structure Finds (l : List Itm) (x : Itm) (m : List Itm) : Prop where
  at_ : findT m x.1 = some x
  stay : ∀ y ∈ l, y.1 ≠ x.1 → findT m y.1 = some y
  gone : findT (dropL m x.1) x.1 = none
  gone2 : ∀ y ∈ l, (y.1 == x.1 || belowT y.1 x.1) = true → findT (dropL m x.1) y.1 = none
  stay2 : ∀ y ∈ l, (y.1 == x.1 || belowT y.1 x.1) = false → findT (dropL m x.1) y.1 = some y
  le : l.length ≤ m.length
  ge : m.length ≤ l.length + 1
theorem Finds.put {l : List Itm} {x : Itm} (hf : FitT l) : Finds l x (withT l x) := by
  have hu := hf.up
  have hu2 := withT_up (x := x) hu
  have h1 : ∀ y ∈ l, y.1 ≠ x.1 → findT (withT l x) y.1 = some y := fun y hy hne => by rw [withT_find hu, if_neg hne]; exact findT_of hu hy
  refine ⟨by rw [withT_find hu, if_pos rfl], h1, by rw [dropL_find hu2, if_pos (.inl rfl)], fun y hy h => ?_, fun y hy h => ?_, ?_, withT_len⟩
  · rw [Bool.or_eq_true, beq_iff_eq] at h
    rw [dropL_find hu2, if_pos h]
  · rw [Bool.or_eq_false_iff, beq_eq_false_iff_ne] at h
    rw [dropL_find hu2, if_neg (fun e => e.elim h.1 (fun e => by rw [h.2] at e; cases e))]
    exact h1 y hy h.1
  · rw [withT_at hu]
    have hk := posT_le (l.map (·.1)) x.1
    rw [List.length_map] at hk
    split
    · simp; omega
    · simp; omega

set_option maxHeartbeats 4000000 in
set_option maxRecDepth 100000 in
theorem tfinds_walk (v : Value) (l : List Itm) (x : Itm) (w : World) (hM : Mx w) (hr : ItRow w v l) :
    Calls Tryd.prog 5 #[v, ItV x] w fun e w' => e = .returned (.bool true) ∧ Below w.heap.size w w' := by
  obtain ⟨w1, hw1, hB1, hr0⟩ : ∃ w1, w1 = w.alloc (.cells #[S x.1, .bool x.2.1, .bool x.2.2.1, S x.2.2.2] 32) ∧ Below w.heap.size w w1 ∧ w1.heap[w.heap.size]? = some (.cells #[S x.1, .bool x.2.1, .bool x.2.2.1, S x.2.2.2] 32 (0, 0)) :=
    ⟨_, rfl, (Below.refl _ _).alloc (Nat.le_refl _) _, heap_alloc_new _ _⟩
  obtain ⟨⟨r0, r1, r2, r3⟩, -, -⟩ := box4 hr0
  clear hr0
  have HR := Lib.hid hr
  have HM := Lib.hid hM
  have HNO := Lib.hid (fun c (h : wrongT l x = c) (hc : c ≠ 0) => putT_wrong h hc)
  have HYES := Lib.hid (fun (h : wrongT l x = 0) => putT_ok h)
  have HFI := Lib.hid (fun hf => Finds.put (l := l) (x := x) hf)
  obtain ⟨p, dd, ex, dt⟩ := x
  simp only at r0 r1 r2 r3 hw1
  obtain ⟨a, c, rfl, hc, hm, hx⟩ := hr
  clear hx hM
  go_enter Tryd.func5, Tryd.ntmps5
  go_upto_region 1 with fail
  rw [← hw1]
  clear hw1
  go_cut [31] from 18 (fun s w' => ∃ q, s = .bool q ∧ (q = false → Small10 l ∧ FitT l ∧ p.length ≤ 1000000 ∧ dt.length ≤ 1000000) ∧ Below w1.heap.size w1 w')
  case first =>
    have C1 := few10_walk _ l w1 (HR.out.below hB1)
    go_wp2_with fail
    refine C1.mono ?_
    rintro e w2 ⟨rfl, hb2⟩
    cases hf1 : fewT l with
    | false =>
      go_wp2
      go_meet
      case rel => exact ⟨true, rfl, (fun h => by cases h), hb2⟩
    | true =>
    have HSM := Lib.hid (Small10.of_few hf1)
    clear hf1 C1
    have x0 := cell_below hb2 r0
    have x1 := cell_below hb2 r1
    have x2 := cell_below hb2 r2
    have x3 := cell_below hb2 r3
    have hba := hb2.alloc hb2.size (.cells #[S p, .bool dd, .bool ex, S dt] 32)
    have C2 := few10_walk _ [(p, dd, ex, dt)] _ (it_row_one w2 (p, dd, ex, dt))
    go_wp2_with fail
    refine C2.mono ?_
    rintro e w3 ⟨rfl, hb3⟩
    have hB3 := below_chain hba hb3 hba.size
    cases hf2 : fewT [(p, dd, ex, dt)] with
    | false =>
      go_wp2
      go_meet
      case rel => exact ⟨true, rfl, (fun h => by cases h), hB3⟩
    | true =>
    have HSX := Lib.hid (Small10.one hf2)
    clear hf2 C2 hb2 hb3 hba
    have hsm := HSM.out
    have C3 := r10fit_walk _ l w3 ((HR.out.below hB1).below hB3) (by have := hsm.len; omega) (by have := hsm.size; omega) hsm.path
    clear hsm
    have HF := Lib.hid (fun h : fitTB l = true => fitTB_iff.1 h)
    generalize fitTB l = fb at *
    go_wp2_with fail
    refine C3.mono ?_
    rintro e w4 ⟨rfl, hb4⟩
    cases fb with
    | false =>
      go_wp2
      go_meet
      case rel => exact ⟨true, rfl, (fun h => by cases h), below_chain hB3 hb4 hB3.size⟩
    | true =>
      have HF2 := Lib.hid (HF.out rfl)
      clear HF
      go_wp2
      go_meet
      case rel => exact ⟨false, rfl, (fun _ => ⟨HSM.out, HF2.out, HSX.out.1, HSX.out.2⟩), below_chain hB3 hb4 hB3.size⟩
  case rest =>
  obtain ⟨q, rfl, hq, hb2⟩ := hcut
  rename_i w2
  (replace r0 := cell_below hb2 r0; replace r1 := cell_below hb2 r1; replace r2 := cell_below hb2 r2; replace r3 := cell_below hb2 r3; replace hB1 := below_chain hB1 hb2 hB1.size; clear hb2)
  cases q with
  | true =>
    go_wp2_with (go_at_call 17; refine (awake10_walk _ (HM.out.below hB1)).mono ?_; rintro e w3 ⟨rfl, hb3⟩)
    go_ret
    exact ⟨rfl, below_chain hB1 hb3 hB1.size⟩
  | false =>
  obtain ⟨hsm, hfit, hp, hdt⟩ := hq rfl
  clear hq
  have hup := hfit.up
  have hl := hsm.len
  have HSM := Lib.hid hsm
  have HSA := Lib.hid (hsm.put (x := (p, dd, ex, dt)) hfit hp)
  have HFA := Lib.hid (putT_fit (x := (p, dd, ex, dt)) hfit)
  have HFIN := Lib.hid (HFI.out hfit)
  clear HFI
  have C1 := fun W h hM => pput10_walk (.slice a l.length c) l (p, dd, ex, dt) W h (by omega) hup hsm.size hM hsm.path hp hdt
  clear hup hfit hsm
  generalize putT l (p, dd, ex, dt) = pa at *
  obtain ⟨m1, e1⟩ := pa
  simp only at C1 HFA HSA
  go_wp2_with fail
  refine (C1 _ (HR.out.below hB1) (HM.out.below hB1)).mono ?_
  rintro e w3 ⟨va, rfl, hra, hb3⟩
  clear C1
  (replace r0 := cell_below hb3 r0; replace r1 := cell_below hb3 r1; replace r2 := cell_below hb3 r2; replace r3 := cell_below hb3 r3; replace hB1 := below_chain hB1 hb3 hB1.size; clear hb3)
  generalize wrongT l (p, dd, ex, dt) = wr at *
  by_cases h0 : wr = 0
  · obtain ⟨em, rfl⟩ := Prod.mk.inj (HYES.out h0)
    have hfin := HFIN.out
    rw [← em] at hfin
    clear h0 HNO HYES HFIN em wr
    have hdrop : dropT m1 p = (dropL m1 p, 0) := by unfold dropT; rw [hfin.at_]; rfl
    have CF1 := fun W h hM => pfind10_walk va m1 p W h (by have := HSA.out.len; omega) HFA.out.up hM hp HSA.out.path
    unfold findV at CF1
    rw [hfin.at_] at CF1
    simp only [Option.getD_some, Option.isSome_some] at CF1
    have CDR := fun W h hM => pdrop10_walk va m1 p W h (by have := HSA.out.len; omega) HFA.out.up hM hp HSA.out.path
    rw [hdrop] at CDR
    simp only at CDR
    have HFB := Lib.hid (dropL_fit (p := p) HFA.out)
    have HSB := Lib.hid (show Small10 (dropL m1 p) by have := HSA.out.drop (p := p); rw [hdrop] at this; exact this)
    have CFB := fun vb W n h hM hn => pfind10_walk vb (dropL m1 p) n W h (by have := HSB.out.len; omega) HFB.out.up hM hn HSB.out.path
    have CFA := fun W n h hM hn => pfind10_walk va m1 n W h (by have := HSA.out.len; omega) HFA.out.up hM hn HSA.out.path
    unfold findV at CFA CFB
    have CF2 := fun vb W h hM => CFB vb W p h hM hp
    rw [hfin.gone] at CF2
    simp only [Option.getD_none, Option.isSome_none] at CF2
    have HFIN := Lib.hid hfin
    have HA7 := Lib.hid (show (0 : Int) ≤ (m1.length : Int) - (l.length : Int) ∧ (m1.length : Int) - (l.length : Int) ≤ 1 by have := hfin.le; have := hfin.ge; omega)
    have hg2 := hfin.gone2
    have hs2 := hfin.stay2
    have hs1 := hfin.stay
    simp only at hg2 hs2 hs1
    clear hfin hdrop HFIN
    generalize dropL m1 p = m2 at *
    have HG2 := Lib.hid hg2
    have HS2 := Lib.hid hs2
    have HS1 := Lib.hid hs1
    clear hg2 hs2 hs1
    go_wp2_with fail
    refine (CF1 _ hra (HM.out.below hB1)).mono ?_
    rintro e w4 ⟨rfl, hb4⟩
    clear CF1
    replace hra := hra.below hb4
    (replace r0 := cell_below hb4 r0; replace r1 := cell_below hb4 r1; replace r2 := cell_below hb4 r2; replace r3 := cell_below hb4 r3; replace hB1 := below_chain hB1 hb4 hB1.size; clear hb4)
    go_upto_region 7 with fail
    obtain ⟨w5, hw5, hb5, hz⟩ : ∃ w5, w5 = w4.alloc (.cells #[S p, .bool dd, .bool ex, S dt] 32) ∧ Below w4.heap.size w4 w5 ∧ w5.heap[w4.heap.size]? = some (.cells #[S p, .bool dd, .bool ex, S dt] 32 (0, 0)) :=
      ⟨_, rfl, (Below.refl _ _).alloc (Nat.le_refl _) _, heap_alloc_new _ _⟩
    rw [← hw5]
    clear hw5
    replace hra := hra.below hb5
    (replace r0 := cell_below hb5 r0; replace r1 := cell_below hb5 r1; replace r2 := cell_below hb5 r2; replace r3 := cell_below hb5 r3; replace hB1 := below_chain hB1 hb5 hB1.size; clear hb5)
    obtain ⟨⟨z0, z1, z2, z3⟩, -, -⟩ := box4 hz
    clear hz
    go_wp2_with fail
    refine (CDR _ hra (HM.out.below hB1)).mono ?_
    rintro e w6 ⟨vb, rfl, hrb, hb6⟩
    clear CDR z0 z1 z2 z3
    replace hra := hra.below hb6
    (replace r0 := cell_below hb6 r0; replace r1 := cell_below hb6 r1; replace r2 := cell_below hb6 r2; replace r3 := cell_below hb6 r3; replace hB1 := below_chain hB1 hb6 hB1.size; clear hb6)
    go_wp2_with fail
    refine (CF2 _ _ hrb (HM.out.below hB1)).mono ?_
    rintro e w7 ⟨rfl, hb7⟩
    clear CF2
    replace hra := hra.below hb7
    replace hrb := hrb.below hb7
    (replace r0 := cell_below hb7 r0; replace r1 := cell_below hb7 r1; replace r2 := cell_below hb7 r2; replace r3 := cell_below hb7 r3; replace hB1 := below_chain hB1 hb7 hB1.size; clear hb7)
    go_upto_region 11 with fail
    obtain ⟨w8, hw8, hb8⟩ : ∃ w8, w8 = w7.alloc (.cells #[S zItm.1, .bool zItm.2.1, .bool zItm.2.2.1, S zItm.2.2.2] 32) ∧ Below w7.heap.size w7 w8 :=
      ⟨_, rfl, (Below.refl _ _).alloc (Nat.le_refl _) _⟩
    rw [← hw8]
    clear hw8
    replace hra := hra.below hb8
    replace hrb := hrb.below hb8
    (replace r0 := cell_below hb8 r0; replace r1 := cell_below hb8 r1; replace r2 := cell_below hb8 r2; replace r3 := cell_below hb8 r3; replace hB1 := below_chain hB1 hb8 hB1.size; clear hb8)
    obtain ⟨aa, ca, hva, hca, hma, -⟩ := id hra
    have HRA := Lib.hid hra
    have HRB := Lib.hid hrb
    subst hva
    have HR8 := HR.out.below hB1
    obtain ⟨a9, c9, hv9, -, -, hx8⟩ := HR8
    cases hv9
    have HX := Lib.hid hx8
    have HB1 := Lib.hid hB1
    clear hra hrb hx8 hB1
    go_wp2
    go_loopw [82] (fun i wr => ∃ k : Nat, k ≤ l.length ∧ i = .int .i64 k ∧ Below w8.heap.size w8 wr) (fun i _ => l.length - (intOf i).toNat)
    case atStart => exact ⟨0, Nat.zero_le _, rfl, Below.refl _ _⟩
    case round =>
      obtain ⟨k, hk, rfl, hB⟩ := hrel
      by_cases h1 : k < l.length
      · have h1' : (k : Int) < (l.length : Int) := by omega
        have hx := HX.out
        rcases hx with hx | ⟨b, o, rfl, hx⟩
        · exfalso; rw [hx] at h1; simp at h1
        obtain ⟨hx1, hx2, hx3, hx4⟩ := it_cells hx h1
        have hc1 := cell_below hB hx1
        have hc2 := cell_below hB hx2
        have hc3 := cell_below hB hx3
        have hc4 := cell_below hB hx4
        have HF1 := Lib.hid (HS1.out l[k] (List.getElem_mem h1))
        have HF2 := Lib.hid (HG2.out l[k] (List.getElem_mem h1))
        have HF3 := Lib.hid (HS2.out l[k] (List.getElem_mem h1))
        have hyl := HSM.out.path l[k] (List.getElem_mem h1)
        clear hx hx1 hx2 hx3 hx4
        generalize l[k] = y at *
        obtain ⟨yp, yd, ye, yt⟩ := y
        simp only at hc1 hc2 hc3 hc4 HF1 HF2 HF3 hyl
        have k0 := cell_below hB r0
        have k1 := cell_below hB r1
        have k2 := cell_below hB r2
        have k3 := cell_below hB r3
        obtain ⟨w9, hw9, hb9, hy⟩ : ∃ w9, w9 = wr.alloc (.cells #[S yp, .bool yd, .bool ye, S yt] 32) ∧ Below wr.heap.size wr w9 ∧ w9.heap[wr.heap.size]? = some (.cells #[S yp, .bool yd, .bool ye, S yt] 32 (0, 0)) :=
          ⟨_, rfl, (Below.refl _ _).alloc (Nat.le_refl _) _, heap_alloc_new _ _⟩
        obtain ⟨⟨y0, y1, y2, y3⟩, -, -⟩ := box4 hy
        clear hy
        go_upto_region 16 with fail
        rw [← hw9]
        clear hw9 hc1 hc2 hc3 hc4
        (replace k0 := cell_below hb9 k0; replace k1 := cell_below hb9 k1; replace k2 := cell_below hb9 k2; replace k3 := cell_below hb9 k3; replace hB := below_chain hB hb9 hB.size; clear hb9)
        by_cases hyp : yp = p
        · have hyp' : (yp == p) = true := by rw [beq_iff_eq]; exact hyp
          have hyn : (yp != p) = false := by rw [bne_eq_false_iff_eq]; exact hyp
          have CA := CFA w9 yp (HRA.out.below hB) ((HM.out.below HB1.out).below hB) hyl
          have hf2 := HF2.out (by rw [hyp']; rfl)
          have CB := fun W h hM => CFB vb W yp h hM hyl
          rw [hf2] at CB
          simp only [Option.getD_none, Option.isSome_none] at CB
          clear hf2 HF1 HF2 HF3 hyp
          generalize (findT m1 yp).isSome = ok at *
          generalize (findT m1 yp).getD zItm = z at *
          obtain ⟨zp, zd, ze, zt⟩ := z
          go_wp2_with fail
          refine CA.mono ?_
          rintro e w10 ⟨rfl, hb10⟩
          clear CA
          (replace k0 := cell_below hb10 k0; replace k1 := cell_below hb10 k1; replace k2 := cell_below hb10 k2; replace k3 := cell_below hb10 k3; replace y0 := cell_below hb10 y0; replace y1 := cell_below hb10 y1; replace y2 := cell_below hb10 y2; replace y3 := cell_below hb10 y3; replace hB := below_chain hB hb10 hB.size; clear hb10)
          go_upto_region 17 with fail
          obtain ⟨w11, hw11, hb11, hz⟩ : ∃ w11, w11 = w10.alloc (.cells #[S zp, .bool zd, .bool ze, S zt] 32) ∧ Below w10.heap.size w10 w11 ∧ w11.heap[w10.heap.size]? = some (.cells #[S zp, .bool zd, .bool ze, S zt] 32 (0, 0)) :=
            ⟨_, rfl, (Below.refl _ _).alloc (Nat.le_refl _) _, heap_alloc_new _ _⟩
          rw [← hw11]
          clear hw11
          obtain ⟨⟨z0, z1, z2, z3⟩, -, -⟩ := box4 hz
          clear hz
          (replace k0 := cell_below hb11 k0; replace k1 := cell_below hb11 k1; replace k2 := cell_below hb11 k2; replace k3 := cell_below hb11 k3; replace y0 := cell_below hb11 y0; replace y1 := cell_below hb11 y1; replace y2 := cell_below hb11 y2; replace y3 := cell_below hb11 y3; replace hB := below_chain hB hb11 hB.size; clear hb11)
          go_upto_region 19 with fail
          have q0 := LaterOf.cell y0
          have j0 := LaterOf.cell k0
          (refine wp_region_later (by kernel_rfl) (by kernel_rfl) ?_; (repeat (go_big_quiet_step (fail))); refine wpQuiet_nil ?_; intro _ hw1; obtain ⟨lw, hw2⟩ := hw1; subst hw2)
          have hB11 := below_chain hB lw.below hB.size
          have CB9 := CB lw.world (HRB.out.below hB11) ((HM.out.below HB1.out).below hB11)
          have v0 := LaterOf.cell y0 lw
          clear q0 j0 CB
          go_wp2_with fail
          refine CB9.mono ?_
          rintro e w12 ⟨rfl, hb12⟩
          go_wp2
          go_roundw
          case rel => exact ⟨k + 1, by omega, by go_num, below_chain hB11 hb12 hB11.size⟩
          case measure => simp [intOf]; omega
        · have hyp' : (yp == p) = false := by rw [beq_eq_false_iff_ne]; exact hyp
          have hyn : (yp != p) = true := by rw [bne_iff_ne]; exact hyp
          have CA := CFA w9 yp (HRA.out.below hB) ((HM.out.below HB1.out).below hB) hyl
          rw [HF1.out hyp] at CA
          simp only [Option.getD_some, Option.isSome_some] at CA
          rw [hyp', Bool.false_or] at HF2 HF3
          have CB := fun W h hM => CFB vb W yp h hM hyl
          have HLEN := Lib.hid (fun (h : p.length < yp.length) => belowT_cut h)
          have HSH := Lib.hid (fun (h : ¬ p.length < yp.length) => belowT_short h)
          clear HF1 hyp
          go_wp2_with fail
          refine CA.mono ?_
          rintro e w10 ⟨rfl, hb10⟩
          clear CA
          (replace k0 := cell_below hb10 k0; replace k1 := cell_below hb10 k1; replace k2 := cell_below hb10 k2; replace k3 := cell_below hb10 k3; replace y0 := cell_below hb10 y0; replace y1 := cell_below hb10 y1; replace y2 := cell_below hb10 y2; replace y3 := cell_below hb10 y3; replace hB := below_chain hB hb10 hB.size; clear hb10)
          go_upto_region 17 with fail
          obtain ⟨w11, hw11, hb11, hz⟩ : ∃ w11, w11 = w10.alloc (.cells #[S yp, .bool yd, .bool ye, S yt] 32) ∧ Below w10.heap.size w10 w11 ∧ w11.heap[w10.heap.size]? = some (.cells #[S yp, .bool yd, .bool ye, S yt] 32 (0, 0)) :=
            ⟨_, rfl, (Below.refl _ _).alloc (Nat.le_refl _) _, heap_alloc_new _ _⟩
          rw [← hw11]
          clear hw11
          obtain ⟨⟨z0, z1, z2, z3⟩, -, -⟩ := box4 hz
          clear hz
          (replace k0 := cell_below hb11 k0; replace k1 := cell_below hb11 k1; replace k2 := cell_below hb11 k2; replace k3 := cell_below hb11 k3; replace y0 := cell_below hb11 y0; replace y1 := cell_below hb11 y1; replace y2 := cell_below hb11 y2; replace y3 := cell_below hb11 y3; replace hB := below_chain hB hb11 hB.size; clear hb11)
          go_upto_region 19 with fail
          have q0 := LaterOf.cell y0
          have j0 := LaterOf.cell k0
          by_cases hlt : p.length < yp.length
          · have hlt' : decide (p.length < yp.length) = true := decide_eq_true hlt
            have hcut := HLEN.out hlt
            have hwr : IntKind.i64.wrap ((p.length : Int) + 1) = (p.length : Int) + 1 := by rw [IntKind.wrap_i64]; omega
            have hin1 : (0 : Int) ≤ (p.length : Int) + 1 ∧ (p.length : Int) + 1 ≤ (yp.length : Int) := by omega
            have HE := Lib.hid (show ((({ data := yp.toArray } : ByteArray).extract 0 (p.length + 1)).toList == (({ data := p.toArray } : ByteArray) ++ ({ data := #[47] } : ByteArray)).toList) = belowT yp p by
              rw [(cut_toList yp p).1, (cut_toList yp p).2]; exact hcut.symm)
            clear hcut hlt HLEN HSH
            cases hbl : belowT yp p with
            | true =>
              have hf2 := HF2.out hbl
              rw [hf2] at CB
              simp only [Option.getD_none, Option.isSome_none] at CB
              have he := HE.out
              rw [hbl] at he
              clear hbl hf2 HF2 HF3 HE
              (refine wp_region_later (by kernel_rfl) (by kernel_rfl) ?_; (repeat (go_big_quiet_step (fail))); refine wpQuiet_nil ?_; intro _ hw1; obtain ⟨lw, hw2⟩ := hw1; subst hw2)
              have hB11 := below_chain hB lw.below hB.size
              have CB9 := CB lw.world (HRB.out.below hB11) ((HM.out.below HB1.out).below hB11)
              have v0 := LaterOf.cell y0 lw
              clear q0 j0 CB
              go_wp2_with fail
              refine CB9.mono ?_
              rintro e w12 ⟨rfl, hb12⟩
              go_wp2
              go_roundw
              case rel => exact ⟨k + 1, by omega, by go_num, below_chain hB11 hb12 hB11.size⟩
              case measure => simp [intOf]; omega
            | false =>
              have hf2 := HF3.out hbl
              rw [hf2] at CB
              simp only [Option.getD_some, Option.isSome_some] at CB
              have he := HE.out
              rw [hbl] at he
              clear hbl hf2 HF2 HF3 HE
              (refine wp_region_later (by kernel_rfl) (by kernel_rfl) ?_; (repeat (go_big_quiet_step (fail))); refine wpQuiet_nil ?_; intro _ hw1; obtain ⟨lw, hw2⟩ := hw1; subst hw2)
              have hB11 := below_chain hB lw.below hB.size
              have CB9 := CB lw.world (HRB.out.below hB11) ((HM.out.below HB1.out).below hB11)
              have v0 := LaterOf.cell y0 lw
              clear q0 j0 CB
              go_wp2_with fail
              refine CB9.mono ?_
              rintro e w12 ⟨rfl, hb12⟩
              go_wp2
              go_roundw
              case rel => exact ⟨k + 1, by omega, by go_num, below_chain hB11 hb12 hB11.size⟩
              case measure => simp [intOf]; omega
          · have hlt' : decide (p.length < yp.length) = false := decide_eq_false hlt
            have hf2 := HF3.out (HSH.out hlt)
            rw [hf2] at CB
            simp only [Option.getD_some, Option.isSome_some] at CB
            clear hlt hf2 HLEN HSH HF2 HF3
            (refine wp_region_later (by kernel_rfl) (by kernel_rfl) ?_; (repeat (go_big_quiet_step (fail))); refine wpQuiet_nil ?_; intro _ hw1; obtain ⟨lw, hw2⟩ := hw1; subst hw2)
            have hB11 := below_chain hB lw.below hB.size
            have CB9 := CB lw.world (HRB.out.below hB11) ((HM.out.below HB1.out).below hB11)
            have v0 := LaterOf.cell y0 lw
            clear q0 j0 CB
            go_wp2_with fail
            refine CB9.mono ?_
            rintro e w12 ⟨rfl, hb12⟩
            go_wp2
            go_roundw
            case rel => exact ⟨k + 1, by omega, by go_num, below_chain hB11 hb12 hB11.size⟩
            case measure => simp [intOf]; omega
      · have h1' : ¬ (k : Int) < (l.length : Int) := by omega
        have hA := HA7.out
        have hlm : l.length ≤ 70 := HSM.out.len
        have hl2 := HSA.out.len
        have hwr : IntKind.i64.wrap ((m1.length : Int) - (l.length : Int)) = (m1.length : Int) - (l.length : Int) := by rw [IntKind.wrap_i64]; omega
        have h0' : (0 : Int) ≤ (m1.length : Int) - (l.length : Int) := hA.1
        have h1'' : (m1.length : Int) - (l.length : Int) ≤ 1 := hA.2
        have hBB := below_chain HB1.out hB HB1.out.size
        clear hA
        go_wp2_with (go_at_call 17; refine (awake10_walk _ (HM.out.below hBB)).mono ?_; rintro e w9 ⟨rfl, hb9⟩)
        go_ret
        exact ⟨rfl, below_chain hBB hb9 hBB.size⟩
  · obtain ⟨rfl, rfl⟩ := Prod.mk.inj (HNO.out wr rfl h0)
    have h0' : (e1 != 0) = true := by rw [bne_iff_ne]; exact h0
    clear h0 HNO HYES
    have C2 := r10same_walk va (.slice a m1.length c) m1 m1 w3 hra (HR.out.below hB1) (by omega) (by omega)
    rw [decide_eq_true rfl] at C2
    go_wp2_with fail
    refine C2.mono ?_
    rintro e w4 ⟨rfl, hb4⟩
    replace hB1 := below_chain hB1 hb4 hB1.size
    clear hb4
    go_wp2_with (go_at_call 17; refine (awake10_walk _ (HM.out.below hB1)).mono ?_; rintro e w5 ⟨rfl, hb5⟩)
    go_ret
    exact ⟨rfl, below_chain hB1 hb5 hB1.size⟩
end Go.Proofs.YtnegnjagiejncaaDoor
