/- Chapter 18: two trees that come in either order. -/
import Derived.Test.YtmlahfmcccpgjaaLaw18
import Derived.Test.YtmlahfmcccpgjaaRootsLaws2
namespace Go.Proofs.Ytmlahfmcccpgjaa
open Go.RowKit

def fewX (x : Snp) : Bool := decide (x.1.length ≤ 100) && decide (x.2.length ≤ 100)
def fewL (l : List Snp) : Bool := decide (l.length ≤ 25) && l.all fewX
theorem fewL_parts {l : List Snp} (h : fewL l = true) : l.length ≤ 25 ∧ ∀ x ∈ l, x.1.length ≤ 100 ∧ x.2.length ≤ 100 := by
  simp only [fewL, fewX, Bool.and_eq_true, decide_eq_true_eq, List.all_eq_true] at h
  exact h

set_option maxHeartbeats 2000000 in
set_option maxRecDepth 100000 in
theorem few18_walk (v : Value) (l : List Snp) (w : World) (hr : SnpRow w v l) :
    Calls Try.prog 14 #[v] w fun e w' => e = .returned (.bool (fewL l)) ∧ Below w.heap.size w w' := by
  obtain ⟨a, c, rfl, hc, hm, hx⟩ := hr
  have HX := Lib.hid hx
  unfold maxLen at hm
  clear hx
  by_cases h25 : 25 < l.length
  · have h25' : (25 : Int) < (l.length : Int) := by omega
    have HF := Lib.hid (show fewL l = false by simp [fewL]; omega)
    go_enter Try.func14, Try.ntmps14
    go_wp2
    go_ret
    exact ⟨by rw [HF.out]; rfl, Below.refl _ _⟩
  have h25' : ¬ (25 : Int) < (l.length : Int) := by omega
  go_enter Try.func14, Try.ntmps14
  go_wp2
  go_loopw [10] (fun i wr => ∃ k : Nat, k ≤ l.length ∧ i = .int .i64 k ∧ (l.take k).all fewX = true ∧ Below w.heap.size w wr) (fun i _ => l.length - (intOf i).toNat)
  case atStart => exact ⟨0, Nat.zero_le _, rfl, by simp, Below.refl _ _⟩
  case round =>
    obtain ⟨k, hk, rfl, hall, hB⟩ := hrel
    have HALL := Lib.hid hall
    have HB := Lib.hid hB
    clear hall
    by_cases h1 : k < l.length
    · have h1' : (k : Int) < (l.length : Int) := by omega
      have hx := HX.out
      rcases hx with hx | ⟨b, o, rfl, hx⟩
      · exfalso; rw [hx] at h1; simp at h1
      obtain ⟨hx1, hx2⟩ := snp_cells hx h1
      have hc1 := cell_below hB hx1
      have hc2 := cell_below hB hx2
      have HST := Lib.hid (fun (h : fewX l[k] = true) => (show (l.take (k + 1)).all fewX = true by
        rw [List.take_succ_eq_append_getElem h1, List.all_append, HALL.out]; simp [h]))
      have HBAD := Lib.hid (fun (h : fewX l[k] = false) => (show fewL l = false by
        have : l.all fewX = false := by rw [List.all_eq_false]; exact ⟨l[k], by simp, by simp [h]⟩
        simp [fewL, this]))
      clear hx hx1 hx2
      have hBa : Below w.heap.size w (wr.alloc (.cells #[S l[k].1, S l[k].2] 31)) := hB.alloc hB.size _
      generalize l[k] = y at *
      obtain ⟨p, q⟩ := y
      have HBA := Lib.hid hBa
      clear hB hBa
      by_cases hp : p.length ≤ 100
      · have hp' : ¬ (100 : Int) < (p.length : Int) := by omega
        by_cases hq : q.length ≤ 100
        · have hq' : ¬ (100 : Int) < (q.length : Int) := by omega
          have HF := Lib.hid (HST.out (by simp [fewX, hp, hq]))
          clear HST HBAD hp hq
          go_wp2
          go_roundw
          case rel => exact ⟨k + 1, by omega, by go_num, HF.out, HBA.out⟩
          case measure => simp [intOf]; omega
        · have hq' : (100 : Int) < (q.length : Int) := by omega
          have HF := Lib.hid (HBAD.out (by simp [fewX, hq]))
          clear HST HBAD hp hq
          go_wp2
          go_ret
          exact ⟨by rw [HF.out]; rfl, HBA.out⟩
      · have hp' : (100 : Int) < (p.length : Int) := by omega
        have HF := Lib.hid (HBAD.out (by simp [fewX, hp]))
        clear HST HBAD hp
        go_wp2
        go_ret
        exact ⟨by rw [HF.out]; rfl, HBA.out⟩
    · have h1' : ¬ (k : Int) < (l.length : Int) := by omega
      have HF := Lib.hid (show fewL l = true by
        have := HALL.out
        rw [List.take_of_length_le (by omega)] at this
        simp only [fewL, this]; simp; omega)
      go_wp2
      go_ret
      exact ⟨by rw [HF.out]; rfl, HB.out⟩

theorem row_two (w : World) (x y : Snp) : SnpRow (w.alloc (.cells #[S x.1, S x.2, S y.1, S y.2] 31)) (.slice (some ⟨w.heap.size, 0, none⟩) 2 2) [x, y] := by
  refine ⟨_, _, rfl, Nat.le_refl _, by unfold maxLen; omega, .inr ⟨_, _, rfl, ?_⟩⟩
  intro j z hz i u hu
  match j, hz with
  | 0, hz =>
    simp at hz; subst hz
    match i, hu with
    | 0, hu => simp at hu; subst hu; exact cell_new w _ _ _ rfl
    | 1, hu => simp at hu; subst hu; exact cell_new w _ _ _ rfl
  | 1, hz =>
    simp at hz; subst hz
    match i, hu with
    | 0, hu => simp at hu; subst hu; exact cell_new w _ _ _ rfl
    | 1, hu => simp at hu; subst hu; exact cell_new w _ _ _ rfl
theorem row_one (w : World) (x : Snp) : SnpRow (w.alloc (.cells #[S x.1, S x.2] 31)) (.slice (some ⟨w.heap.size, 0, none⟩) 1 1) [x] := by
  refine ⟨_, _, rfl, Nat.le_refl _, by unfold maxLen; omega, .inr ⟨_, _, rfl, ?_⟩⟩
  intro j z hz i u hu
  match j, hz with
  | 0, hz =>
    simp at hz; subst hz
    match i, hu with
    | 0, hu => simp at hu; subst hu; exact cell_new w _ _ _ rfl
    | 1, hu => simp at hu; subst hu; exact cell_new w _ _ _ rfl

set_option maxHeartbeats 4000000 in
set_option maxRecDepth 100000 in
theorem rorders_walk (v : Value) (l : List Snp) (x y : Snp) (w : World) (hr : SnpRow w v l) :
    Calls Try.prog 5 #[v, SnpV x, SnpV y] w fun e w' => e = .returned (.bool true) ∧ Below w.heap.size w w' := by
  obtain ⟨p, q⟩ := x
  obtain ⟨p2, q2⟩ := y
  obtain ⟨w0, hw0⟩ : ∃ w0, w0 = (w.alloc (.cells #[S p, S q] 31)).alloc (.cells #[S p2, S q2] 31) := ⟨_, rfl⟩
  have hB0 : Below w.heap.size w w0 := by rw [hw0]; exact ((Below.refl _ _).alloc (Nat.le_refl _) _).alloc (by simp) _
  have hx1 : w0.cell? ⟨w.heap.size, 0, none⟩ = some (S p) := by rw [hw0]; exact cell_old (cell_new w _ _ _ rfl) _
  have hx2 : w0.cell? ⟨w.heap.size, 1, none⟩ = some (S q) := by rw [hw0]; exact cell_old (cell_new w _ _ _ rfl) _
  have hy1 : w0.cell? ⟨w.heap.size + 1, 0, none⟩ = some (S p2) := by rw [hw0]; simp
  have hy2 : w0.cell? ⟨w.heap.size + 1, 1, none⟩ = some (S q2) := by rw [hw0]; simp
  have hr0 := hr.below hB0
  have hs0 : w.heap.size + 2 ≤ w0.heap.size := by rw [hw0]; simp
  have HW0 := Lib.hid hw0
  have HR0 := Lib.hid hr0
  have C1 := few18_walk v l w0 hr0
  obtain ⟨a, c, rfl, hc, hm, hx⟩ := hr
  clear hx hr0
  cases hf1 : fewL l with
  | false =>
    rw [hf1] at C1
    clear hf1
    go_enter Try.func5, Try.ntmps5
    go_wp2_with fail
    rw [← hw0]
    refine C1.mono ?_
    rintro e w1 ⟨rfl, hb1⟩
    have hB1 := below_chain hB0 hb1 hB0.size
    clear hw0
    go_wp2_with (go_at_call 9; refine (awake18_walk _).mono ?_; rintro e w2 ⟨rfl, hb2⟩)
    go_ret
    exact ⟨rfl, below_chain hB1 hb2 hB1.size⟩
  | true =>
    rw [hf1] at C1
    obtain ⟨hl25, hlen⟩ := fewL_parts hf1
    have HLEN := Lib.hid hlen
    clear hf1 hlen
    cases hf2 : fewL [(p, q), (p2, q2)] with
    | false =>
      have HF2 := Lib.hid hf2
      clear hf2
      go_enter Try.func5, Try.ntmps5
      go_wp2_with fail
      rw [← hw0]
      refine C1.mono ?_
      rintro e w1 ⟨rfl, hb1⟩
      have hB1 := below_chain hB0 hb1 hB0.size
      have kx1 := cell_below hb1 hx1
      have kx2 := cell_below hb1 hx2
      have ky1 := cell_below hb1 hy1
      have ky2 := cell_below hb1 hy2
      clear hw0
      go_wp2_with fail
      refine (few18_walk _ _ _ (row_two w1 (p, q) (p2, q2))).mono ?_
      rintro e w2 ⟨rfl, hb2⟩
      rw [HF2.out]
      have hB2 := below_chain (hB1.alloc hB1.size (.cells #[S p, S q, S p2, S q2] 31)) hb2 (by have := hB1.size; simp; omega)
      go_wp2_with (go_at_call 9; refine (awake18_walk _).mono ?_; rintro e w3 ⟨rfl, hb3⟩)
      go_ret
      exact ⟨rfl, below_chain hB2 hb3 hB2.size⟩
    | true =>
      have hxl := fewL_parts hf2
      have hxp : p.length ≤ 1000000 ∧ q.length ≤ 1000000 := by have := hxl.2 (p, q) (by simp); simp only at this; omega
      have hyp : p2.length ≤ 1000000 ∧ q2.length ≤ 1000000 := by have := hxl.2 (p2, q2) (by simp); simp only at this; omega
      have HF2 := Lib.hid hf2
      clear hf2 hxl
      have HL2 := Lib.hid (show ∀ z ∈ l, z.1.length ≤ 1000000 ∧ z.2.length ≤ 1000000 by intro z hz; have := HLEN.out z hz; omega)
      go_enter Try.func5, Try.ntmps5
      go_wp2_with fail
      rw [← hw0]
      refine C1.mono ?_
      rintro e w1 ⟨rfl, hb1⟩
      have hB1 := below_chain hB0 hb1 hB0.size
      have kx1 := cell_below hb1 hx1
      have kx2 := cell_below hb1 hx2
      have ky1 := cell_below hb1 hy1
      have ky2 := cell_below hb1 hy2
      have kr := HR0.out.below hb1
      clear hw0 hx1 hx2 hy1 hy2 hb1 C1
      go_wp2_with fail
      refine (few18_walk _ _ _ (row_two w1 (p, q) (p2, q2))).mono ?_
      rintro e w2 ⟨rfl, hb2⟩
      rw [HF2.out]
      have hB2 := below_chain (hB1.alloc hB1.size (.cells #[S p, S q, S p2, S q2] 31)) hb2 (by have := hB1.size; simp; omega)
      have hba := (Below.refl w1.heap.size w1).alloc (Nat.le_refl _) (.cells #[S p, S q, S p2, S q2] 31)
      have hb2' := below_chain hba hb2 (by simp)
      replace kx1 := cell_below hb2' kx1
      replace kx2 := cell_below hb2' kx2
      replace ky1 := cell_below hb2' ky1
      replace ky2 := cell_below hb2' ky2
      replace kr := kr.below hb2'
      clear hb2' hb2 hba hB1
      go_wp2_with fail
      refine (r18fit_walk _ l w2 kr (by omega) HL2.out).mono ?_
      rintro e w3 ⟨rfl, hb3⟩
      have hB3 := below_chain hB2 hb3 hB2.size
      replace kx1 := cell_below hb3 kx1
      replace kx2 := cell_below hb3 kx2
      replace ky1 := cell_below hb3 ky1
      replace ky2 := cell_below hb3 ky2
      replace kr := kr.below hb3
      clear hb3 hB2
      cases hfit : fitR l with
      | false =>
        go_wp2_with (go_at_call 9; refine (awake18_walk _).mono ?_; rintro e w4 ⟨rfl, hb4⟩)
        go_ret
        exact ⟨rfl, below_chain hB3 hb4 hB3.size⟩
      | true =>
        have HFIT := Lib.hid hfit
        have hll : l.length ≤ 20 := (fitR_parts hfit).1
        have HPP := Lib.hid (fun h1 h2 h3 h4 => put_put (x := (p, q)) (y := (p2, q2)) hfit h1 h2 h3 h4)
        have HP1 := Lib.hid (fun v w hr => pput18_walk v l (p, q) w hr (by omega) hxp.1 hxp.2 (upS_of l (fitR_parts hfit).2.2))
        have HP3 := Lib.hid (fun v w hr => pput18_walk v l (p2, q2) w hr (by omega) hyp.1 hyp.2 (upS_of l (fitR_parts hfit).2.2))
        have f1 := fitR_put hfit (p, q)
        have f3 := fitR_put hfit (p2, q2)
        have g1 := (fitR_parts f1).1
        have g3 := (fitR_parts f3).1
        have HP2 := Lib.hid (fun v w hr => pput18_walk v (putE l (p, q)).1 (p2, q2) w hr (by omega) hyp.1 hyp.2 (upS_of _ (fitR_parts f1).2.2))
        have HP4 := Lib.hid (fun v w hr => pput18_walk v (putE l (p2, q2)).1 (p, q) w hr (by omega) hxp.1 hxp.2 (upS_of _ (fitR_parts f3).2.2))
        have g2 := (fitR_parts (fitR_put f1 (p2, q2))).1
        have g4 := (fitR_parts (fitR_put f3 (p, q))).1
        clear hfit f1 f3
        generalize putE l (p, q) = r1 at *
        generalize putE l (p2, q2) = r3 at *
        generalize putE r1.1 (p2, q2) = r2 at *
        generalize putE r3.1 (p, q) = r4 at *
        obtain ⟨la, ea⟩ := r1
        obtain ⟨lb, eb⟩ := r2
        obtain ⟨lc, ec⟩ := r3
        obtain ⟨ld, ed⟩ := r4
        simp only at HP1 HP2 HP3 HP4 HPP g1 g2 g3 g4
        by_cases hall : ea = 0 ∧ eb = 0 ∧ ec = 0 ∧ ed = 0
        · obtain ⟨h1, h2, h3, h4⟩ := hall
          obtain ⟨q1, q2'⟩ := HPP.out h1 h2 h3 h4
          subst h1; subst h2; subst h3; subst h4
          have HEQ := Lib.hid q1
          have HLN := Lib.hid q2'
          clear q1 q2' HPP
          go_wp2_with fail
          refine (HP1.out _ _ kr).mono ?_
          rintro e w4 ⟨va, rfl, ra, hb4⟩
          have hB4 := below_chain hB3 hb4 hB3.size
          replace kx1 := cell_below hb4 kx1
          replace kx2 := cell_below hb4 kx2
          replace ky1 := cell_below hb4 ky1
          replace ky2 := cell_below hb4 ky2
          replace kr := kr.below hb4
          clear hb4 hB3
          go_wp2_with fail
          refine (HP2.out _ _ ra).mono ?_
          rintro e w5 ⟨vb, rfl, rb, hb5⟩
          have hB5 := below_chain hB4 hb5 hB4.size
          replace kx1 := cell_below hb5 kx1
          replace kx2 := cell_below hb5 kx2
          replace ky1 := cell_below hb5 ky1
          replace ky2 := cell_below hb5 ky2
          replace kr := kr.below hb5
          clear hb5 hB4 ra
          go_wp2_with fail
          refine (HP3.out _ _ kr).mono ?_
          rintro e w6 ⟨vc, rfl, rc, hb6⟩
          have hB6 := below_chain hB5 hb6 hB5.size
          replace kx1 := cell_below hb6 kx1
          replace kx2 := cell_below hb6 kx2
          replace kr := kr.below hb6
          replace rb := rb.below hb6
          clear hb6 hB5 ky1 ky2
          go_wp2_with fail
          refine (HP4.out _ _ rc).mono ?_
          rintro e w7 ⟨vd, rfl, rd, hb7⟩
          have hB7 := below_chain hB6 hb7 hB6.size
          replace kr := kr.below hb7
          replace rb := rb.below hb7
          clear hb7 hB6 kx1 kx2 rc
          have KR := Lib.hid kr
          have RB := Lib.hid rb
          have RD := Lib.hid rd
          clear kr rb rd
          go_wp2_with fail
          refine (r18same_walk _ _ lb ld w7 RB.out RD.out (by omega)).mono ?_
          rintro e w8 ⟨rfl, hb8⟩
          rw [show (lb == ld) = true by rw [HEQ.out]; simp]
          have hB8 := below_chain hB7 hb8 hB7.size
          go_wp2_with fail
          refine (pkeys_walk _ lb w8 (RB.out.below hb8) (by omega)).mono ?_
          rintro e w9 ⟨vk, rfl, ⟨ak, ck, rfl, _, _, _⟩, hb9⟩
          have hB9 := below_chain hB8 hb9 hB8.size
          have hkl : (keysR lb).length = l.length + 2 := by rw [keysR_len, HLN.out]
          have hkk : (((keysR lb).length : Int) == (l.length : Int) + 2) = true := by rw [beq_iff_eq]; omega
          go_wp2_with (go_at_call 9; refine (awake18_walk _).mono ?_; rintro e w10 ⟨rfl, hb10⟩)
          go_ret
          exact ⟨rfl, below_chain hB9 hb10 hB9.size⟩
        · have hsome : ((ea != 0) = true) ∨ ((ea != 0) = false ∧ (eb != 0) = true) ∨ ((ea != 0) = false ∧ (eb != 0) = false ∧ (ec != 0) = true) ∨ ((ea != 0) = false ∧ (eb != 0) = false ∧ (ec != 0) = false ∧ (ed != 0) = true) := by
            by_cases e1 : ea = 0
            · by_cases e2 : eb = 0
              · by_cases e3 : ec = 0
                · have e4 : ed ≠ 0 := fun h => hall ⟨e1, e2, e3, h⟩
                  exact .inr (.inr (.inr ⟨by simp [e1], by simp [e2], by simp [e3], by rw [bne_iff_ne]; exact e4⟩))
                · exact .inr (.inr (.inl ⟨by simp [e1], by simp [e2], by rw [bne_iff_ne]; exact e3⟩))
              · exact .inr (.inl ⟨by simp [e1], by rw [bne_iff_ne]; exact e2⟩)
            · exact .inl (by rw [bne_iff_ne]; exact e1)
          clear hall HPP
          go_wp2_with fail
          refine (HP1.out _ _ kr).mono ?_
          rintro e w4 ⟨va, rfl, ra, hb4⟩
          have hB4 := below_chain hB3 hb4 hB3.size
          replace kx1 := cell_below hb4 kx1
          replace kx2 := cell_below hb4 kx2
          replace ky1 := cell_below hb4 ky1
          replace ky2 := cell_below hb4 ky2
          replace kr := kr.below hb4
          clear hb4 hB3
          go_wp2_with fail
          refine (HP2.out _ _ ra).mono ?_
          rintro e w5 ⟨vb, rfl, rb, hb5⟩
          have hB5 := below_chain hB4 hb5 hB4.size
          replace kx1 := cell_below hb5 kx1
          replace kx2 := cell_below hb5 kx2
          replace ky1 := cell_below hb5 ky1
          replace ky2 := cell_below hb5 ky2
          replace kr := kr.below hb5
          clear hb5 hB4 ra
          go_wp2_with fail
          refine (HP3.out _ _ kr).mono ?_
          rintro e w6 ⟨vc, rfl, rc, hb6⟩
          have hB6 := below_chain hB5 hb6 hB5.size
          replace kx1 := cell_below hb6 kx1
          replace kx2 := cell_below hb6 kx2
          replace kr := kr.below hb6
          replace rb := rb.below hb6
          clear hb6 hB5 ky1 ky2
          go_wp2_with fail
          refine (HP4.out _ _ rc).mono ?_
          rintro e w7 ⟨vd, rfl, rd, hb7⟩
          have hB7 := below_chain hB6 hb7 hB6.size
          replace kr := kr.below hb7
          replace rb := rb.below hb7
          clear hb7 hB6 kx1 kx2 rc
          have KR := Lib.hid kr
          have RB := Lib.hid rb
          have RD := Lib.hid rd
          clear kr rb rd
          have HKEY := Lib.hid (pkeys_walk _ l w7 KR.out (by omega))
          have hkk : (((keysR l).length : Int) == (l.length : Int)) = true := by rw [keysR_len]; simp
          rcases hsome with h | ⟨h, h2⟩ | ⟨h, h2, h3⟩ | ⟨h, h2, h3, h4⟩
          all_goals
            go_wp2_with fail
            refine HKEY.out.mono ?_
            rintro e w8 ⟨vk, rfl, ⟨ak, ck, rfl, _, _, _⟩, hb8⟩
            have hB8 := below_chain hB7 hb8 hB7.size
            go_wp2_with (go_at_call 9; refine (awake18_walk _).mono ?_; rintro e w9 ⟨rfl, hb9⟩)
            go_ret
            exact ⟨rfl, below_chain hB8 hb9 hB8.size⟩
end Go.Proofs.Ytmlahfmcccpgjaa
