/- Chapter 10: trees with something put in, and with something gone. -/
import Derived.Test.YtnegnjagiejncaaDoorAwake10
import Derived.Test.YtnegnjagiejncaaDoorR10c
import Derived.Test.YtnegnjagiejncaaDoorR10e
import Derived.Test.YtnegnjagiejncaaDoorR10g
namespace Go.Proofs.YtnegnjagiejncaaDoor
open Go.RowKit

theorem it_row_one (w : World) (x : Itm) : ItRow (w.alloc (.cells #[S x.1, .bool x.2.1, .bool x.2.2.1, S x.2.2.2] 32)) (.slice (some ⟨w.heap.size, 0, none⟩) 1 1) [x] := by
  refine ⟨_, _, rfl, Nat.le_refl _, by unfold maxLen; omega, .inr ⟨_, _, rfl, ?_⟩⟩
  intro j z hz i u hu
  match j, hz with
  | 0, hz =>
    simp at hz; subst hz
    match i, hu with
    | 0, hu => simp at hu; subst hu; exact cell_new w _ _ _ rfl
    | 1, hu => simp at hu; subst hu; exact cell_new w _ _ _ rfl
    | 2, hu => simp at hu; subst hu; exact cell_new w _ _ _ rfl
    | 3, hu => simp at hu; subst hu; exact cell_new w _ _ _ rfl
/-- What few items and fit trees have. -/
structure Small10 (l : List Itm) : Prop where
  len : l.length ≤ 70
  path : ∀ x ∈ l, x.1.length ≤ 1000000
  size : sizeT l ≤ 1000000000
theorem sizeT_small : ∀ {l : List Itm}, (∀ x ∈ l, x.2.2.2.length ≤ 40000) → sizeT l ≤ l.length * 40000
  | [], _ => by simp [sizeT]
  | x :: l, h => by
    have h1 := h x (by simp)
    have h2 := sizeT_small (l := l) (fun y hy => h y (by simp [hy]))
    rw [sizeT_cons, List.length_cons]; omega
theorem Small10.of_few {l : List Itm} (h : fewT l = true) : Small10 l := by
  obtain ⟨h1, h2⟩ := fewT_parts h
  have h3 := sizeT_small (fun x hx => (h2 x hx).2)
  exact ⟨h1, fun x hx => by have := (h2 x hx).1; omega, by omega⟩
theorem Small10.one {x : Itm} (h : fewT [x] = true) : x.1.length ≤ 1000000 ∧ x.2.2.2.length ≤ 1000000 := by
  obtain ⟨_, h2⟩ := fewT_parts h
  have := h2 x (by simp); omega
theorem Small10.put {l : List Itm} {x : Itm} (h : Small10 l) (hf : FitT l) (hx : x.1.length ≤ 1000000) : Small10 (putT l x).1 := by
  have hp := putT_fit (x := x) hf
  refine ⟨Nat.le_trans hp.len (by omega), ?_, Nat.le_trans hp.size (by omega)⟩
  unfold putT
  split
  · intro y hy
    rcases withT_mem.1 hy with rfl | ⟨h1, _⟩
    · exact hx
    · exact h.path y h1
  · exact h.path
theorem dropT_fit {l : List Itm} {p : List UInt8} (h : FitT l) : FitT (dropT l p).1 := by
  unfold dropT; split
  · exact h
  · exact dropL_fit h
theorem Small10.drop {l : List Itm} {p : List UInt8} (h : Small10 l) : Small10 (dropT l p).1 := by
  unfold dropT; split
  · exact h
  · have hsub : (dropL l p).Sublist l := List.filter_sublist
    exact ⟨Nat.le_trans hsub.length_le h.len, fun x hx => h.path x (hsub.subset hx), Nat.le_trans (sizeT_sub hsub) h.size⟩

set_option maxHeartbeats 4000000 in
set_option maxRecDepth 100000 in
theorem tdoes_walk (v : Value) (l : List Itm) (x : Itm) (n : List UInt8) (w : World) (hM : Mx w) (hr : ItRow w v l) :
    Calls Tryd.prog 4 #[v, ItV x, S n] w fun e w' => e = .returned (.bool true) ∧ Below w.heap.size w w' := by
  obtain ⟨w1, hw1, hB1, hr0⟩ : ∃ w1, w1 = w.alloc (.cells #[S x.1, .bool x.2.1, .bool x.2.2.1, S x.2.2.2] 32) ∧ Below w.heap.size w w1 ∧ w1.heap[w.heap.size]? = some (.cells #[S x.1, .bool x.2.1, .bool x.2.2.1, S x.2.2.2] 32 (0, 0)) :=
    ⟨_, rfl, (Below.refl _ _).alloc (Nat.le_refl _) _, heap_alloc_new _ _⟩
  obtain ⟨⟨r0, r1, r2, r3⟩, -, -⟩ := box4 hr0
  clear hr0
  have HR := Lib.hid hr
  obtain ⟨p, dd, ex, dt⟩ := x
  simp only at r0 r1 r2 r3 hw1
  have HM := Lib.hid hM
  obtain ⟨a, c, rfl, hc, hm, hx⟩ := hr
  clear hx hM
  go_enter Tryd.func4, Tryd.ntmps4
  go_upto_region 1 with fail
  rw [← hw1]
  clear hw1
  go_cut [33] from 15 (fun s w' => ∃ q, s = .bool q ∧ (q = false → Small10 l ∧ FitT l ∧ p.length ≤ 1000000 ∧ dt.length ≤ 1000000 ∧ n.length ≤ 1000000) ∧ Below w1.heap.size w1 w')
  case first =>
    have C1 := few10_walk _ l w1 (HR.out.below hB1)
    go_wp2_with fail
    refine C1.mono ?_
    rintro e w2 ⟨rfl, hb2⟩
    cases hf1 : fewT l with
    | false =>
      go_wp2
      go_meet
      case rel => exact ⟨true, rfl, (fun h => by cases h), hb2⟩
    | true =>
    have HSM := Lib.hid (Small10.of_few hf1)
    clear hf1 C1
    have x0 := cell_below hb2 r0
    have x1 := cell_below hb2 r1
    have x2 := cell_below hb2 r2
    have x3 := cell_below hb2 r3
    have hba := hb2.alloc hb2.size (.cells #[S p, .bool dd, .bool ex, S dt] 32)
    have C2 := few10_walk _ [(p, dd, ex, dt)] _ (it_row_one w2 (p, dd, ex, dt))
    go_wp2_with fail
    refine C2.mono ?_
    rintro e w3 ⟨rfl, hb3⟩
    have hB3 := below_chain hba hb3 hba.size
    cases hf2 : fewT [(p, dd, ex, dt)] with
    | false =>
      go_wp2
      go_meet
      case rel => exact ⟨true, rfl, (fun h => by cases h), hB3⟩
    | true =>
    have HSX := Lib.hid (Small10.one hf2)
    clear hf2 C2 hb2 hb3 hba
    by_cases hn : n.length ≤ 400
    · have hn' : ¬ (400 : Int) < (n.length : Int) := by omega
      have hsm := HSM.out
      have C3 := r10fit_walk _ l w3 ((HR.out.below hB1).below hB3) (by have := hsm.len; omega) (by have := hsm.size; omega) hsm.path
      clear hsm
      have HF := Lib.hid (fun h : fitTB l = true => fitTB_iff.1 h)
      generalize fitTB l = fb at *
      go_wp2_with fail
      refine C3.mono ?_
      rintro e w4 ⟨rfl, hb4⟩
      cases fb with
      | false =>
        go_wp2
        go_meet
        case rel => exact ⟨true, rfl, (fun h => by cases h), below_chain hB3 hb4 hB3.size⟩
      | true =>
        have HF2 := Lib.hid (HF.out rfl)
        clear HF
        go_wp2
        go_meet
        case rel => exact ⟨false, by rw [decide_eq_false (by omega)], fun _ => ⟨HSM.out, HF2.out, HSX.out.1, HSX.out.2, by omega⟩, below_chain hB3 hb4 hB3.size⟩
    · have hn' : (400 : Int) < (n.length : Int) := by omega
      go_wp2
      go_meet
      case rel => exact ⟨true, rfl, (fun h => by cases h), hB3⟩
  case rest =>
  obtain ⟨q, rfl, hq, hb2⟩ := hcut
  rename_i w2
  (replace r0 := cell_below hb2 r0; replace r1 := cell_below hb2 r1; replace r2 := cell_below hb2 r2; replace r3 := cell_below hb2 r3; replace hB1 := below_chain hB1 hb2 hB1.size; clear hb2)
  cases q with
  | true =>
    go_wp2_with (go_at_call 17; refine (awake10_walk _ (HM.out.below hB1)).mono ?_; rintro e w3 ⟨rfl, hb3⟩)
    go_ret
    exact ⟨rfl, below_chain hB1 hb3 hB1.size⟩
  | false =>
  obtain ⟨hsm, hfit, hp, hdt, hn⟩ := hq rfl
  clear hq
  have hup := hfit.up
  have hl := hsm.len
  have HFA := Lib.hid (putT_fit (x := (p, dd, ex, dt)) hfit)
  have HFC := Lib.hid (dropT_fit (p := n) hfit)
  have HSA := Lib.hid (hsm.put (x := (p, dd, ex, dt)) hfit hp)
  have HSC := Lib.hid (hsm.drop (p := n))
  have CP := fun W h hM => pput10_walk (.slice a l.length c) l (p, dd, ex, dt) W h (by omega) hup hsm.size hM hsm.path hp hdt
  have CRP := fun W h => r10put_walk (.slice a l.length c) l (p, dd, ex, dt) W h (by omega) hup hsm.size hsm.path hp hdt
  have CD := fun W h hM => pdrop10_walk (.slice a l.length c) l n W h (by omega) hup hM hn hsm.path
  have CRD := fun W h => r10drop_walk (.slice a l.length c) l n W h (by omega) hsm.path hn
  clear hup hfit hsm hl
  generalize putT l (p, dd, ex, dt) = pa at *
  generalize dropT l n = pc at *
  obtain ⟨m1, e1⟩ := pa
  obtain ⟨m2, e2⟩ := pc
  simp only at CP CRP CD CRD HFA HFC HSA HSC
  go_wp2_with fail
  refine (CP _ (HR.out.below hB1) (HM.out.below hB1)).mono ?_
  rintro e w3 ⟨va, rfl, hra, hb3⟩
  clear CP
  (replace r0 := cell_below hb3 r0; replace r1 := cell_below hb3 r1; replace r2 := cell_below hb3 r2; replace r3 := cell_below hb3 r3; replace hB1 := below_chain hB1 hb3 hB1.size; clear hb3)
  go_wp2_with fail
  refine (CRP _ (HR.out.below hB1)).mono ?_
  rintro e w4 ⟨vb, rfl, hrb, hb4⟩
  clear CRP
  replace hra := hra.below hb4
  (replace r0 := cell_below hb4 r0; replace r1 := cell_below hb4 r1; replace r2 := cell_below hb4 r2; replace r3 := cell_below hb4 r3; replace hB1 := below_chain hB1 hb4 hB1.size; clear hb4)
  go_wp2_with fail
  refine (CD _ (HR.out.below hB1) (HM.out.below hB1)).mono ?_
  rintro e w5 ⟨vc, rfl, hrc, hb5⟩
  clear CD
  replace hra := hra.below hb5
  replace hrb := hrb.below hb5
  replace hB1 := below_chain hB1 hb5 hB1.size
  go_wp2_with fail
  refine (CRD _ (HR.out.below hB1)).mono ?_
  rintro e w6 ⟨vd, rfl, hrd, hb6⟩
  clear CRD r0 r1 r2 r3 hb5
  replace hra := hra.below hb6
  replace hrb := hrb.below hb6
  replace hrc := hrc.below hb6
  replace hB1 := below_chain hB1 hb6 hB1.size
  have hsa := HSA.out
  have hsc := HSC.out
  have C1 := r10same_walk va vb m1 m1 w6 hra hrb (by have := hsa.len; omega) (by have := hsa.len; omega)
  rw [decide_eq_true rfl] at C1
  clear hb6
  go_wp2_with fail
  refine C1.mono ?_
  rintro e w7 ⟨rfl, hb7⟩
  have C2 := r10same_walk vc vd m2 m2 w7 (hrc.below hb7) (hrd.below hb7) (by have := hsc.len; omega) (by have := hsc.len; omega)
  rw [decide_eq_true rfl] at C2
  replace hra := hra.below hb7
  replace hrc := hrc.below hb7
  replace hB1 := below_chain hB1 hb7 hB1.size
  clear hb7 hrb hrd C1
  go_wp2_with fail
  refine C2.mono ?_
  rintro e w8 ⟨rfl, hb8⟩
  have C3 := r10fit_walk va m1 w8 (hra.below hb8) (by have := hsa.len; omega) (by have := hsa.size; omega) hsa.path
  rw [fitTB_iff.2 HFA.out] at C3
  replace hrc := hrc.below hb8
  replace hB1 := below_chain hB1 hb8 hB1.size
  clear hb8 hra C2
  go_wp2_with fail
  refine C3.mono ?_
  rintro e w9 ⟨rfl, hb9⟩
  have C4 := r10fit_walk vc m2 w9 (hrc.below hb9) (by have := hsc.len; omega) (by have := hsc.size; omega) hsc.path
  rw [fitTB_iff.2 HFC.out] at C4
  replace hB1 := below_chain hB1 hb9 hB1.size
  clear hb9 hrc C3
  go_wp2_with fail
  refine C4.mono ?_
  rintro e w10 ⟨rfl, hb10⟩
  replace hB1 := below_chain hB1 hb10 hB1.size
  clear hb10 C4
  go_wp2_with (go_at_call 17; refine (awake10_walk _ (HM.out.below hB1)).mono ?_; rintro e w11 ⟨rfl, hb11⟩)
  go_ret
  exact ⟨rfl, below_chain hB1 hb11 hB1.size⟩
end Go.Proofs.YtnegnjagiejncaaDoor
