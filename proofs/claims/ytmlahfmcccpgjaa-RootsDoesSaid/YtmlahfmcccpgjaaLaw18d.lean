/- Chapter 18: which trees can be kept, which are the same, and all else, are the document's. -/
import Derived.Test.YtmlahfmcccpgjaaLaw18c
namespace Go.Proofs.Ytmlahfmcccpgjaa
open Go.RowKit

set_option maxHeartbeats 8000000 in
set_option maxRecDepth 100000 in
theorem rdoes_walk (v : Value) (l : List Snp) (v2 : Value) (m : List Snp) (x : Snp) (goes : Bool) (w : World) (hr : SnpRow w v l) (hr2 : SnpRow w v2 m) :
    Calls Try.prog 6 #[v, v2, SnpV x, .bool goes] w fun e w' => e = .returned (.bool true) ∧ Below w.heap.size w w' := by
  obtain ⟨p, q⟩ := x
  obtain ⟨w0, hw0⟩ : ∃ w0, w0 = w.alloc (.cells #[S p, S q] 31) := ⟨_, rfl⟩
  have hB0 : Below w.heap.size w w0 := by rw [hw0]; exact (Below.refl _ _).alloc (Nat.le_refl _) _
  have kx1 : w0.cell? ⟨w.heap.size, 0, none⟩ = some (S p) := by rw [hw0]; exact cell_new w _ _ _ rfl
  have kx2 : w0.cell? ⟨w.heap.size, 1, none⟩ = some (S q) := by rw [hw0]; exact cell_new w _ _ _ rfl
  have kr := hr.below hB0
  have kr2 := hr2.below hB0
  have C1 := few18_walk v l w0 kr
  obtain ⟨a, c, rfl, hc, hm, hx⟩ := hr
  obtain ⟨a2, c2, rfl, hc2, hm2, hx2⟩ := hr2
  clear hx hx2
  cases hf1 : fewL l with
  | false =>
    rw [hf1] at C1
    clear hf1
    go_enter Try.func6, Try.ntmps6
    go_wp2_with fail
    rw [← hw0]
    clear hw0
    have hBB := hB0
    refine C1.mono ?_
    rintro e w1 ⟨rfl, hb1⟩
    replace hBB := below_chain hBB hb1 hBB.size
    replace kx1 := cell_below hb1 kx1
    replace kx2 := cell_below hb1 kx2
    replace kr := kr.below hb1
    replace kr2 := kr2.below hb1
    clear hb1
    go_wp2_with (go_at_call 9; refine (awake18_walk _).mono ?_; rintro e wt ⟨rfl, hbt⟩)
    go_ret
    exact ⟨rfl, below_chain hBB hbt hBB.size⟩

  | true =>
    rw [hf1] at C1
    obtain ⟨hl25, hlen⟩ := fewL_parts hf1
    have HL2 := Lib.hid (show ∀ z ∈ l, z.1.length ≤ 1000000 ∧ z.2.length ≤ 1000000 by intro z hz; have := hlen z hz; omega)
    clear hf1 hlen
    cases hf2 : fewL m with
    | false =>
      have HF2 := Lib.hid hf2
      clear hf2
      go_enter Try.func6, Try.ntmps6
      go_wp2_with fail
      rw [← hw0]
      clear hw0
      have hBB := hB0
      refine C1.mono ?_
      rintro e w1 ⟨rfl, hb1⟩
      replace hBB := below_chain hBB hb1 hBB.size
      replace kx1 := cell_below hb1 kx1
      replace kx2 := cell_below hb1 kx2
      replace kr := kr.below hb1
      replace kr2 := kr2.below hb1
      clear hb1
      go_wp2_with fail
      refine (few18_walk _ m w1 kr2).mono ?_
      rintro e w2 ⟨rfl, hb2⟩
      rw [HF2.out]
      replace hBB := below_chain hBB hb2 hBB.size
      replace kx1 := cell_below hb2 kx1
      replace kx2 := cell_below hb2 kx2
      replace kr := kr.below hb2
      replace kr2 := kr2.below hb2
      clear hb2
      go_wp2_with (go_at_call 9; refine (awake18_walk _).mono ?_; rintro e wt ⟨rfl, hbt⟩)
      go_ret
      exact ⟨rfl, below_chain hBB hbt hBB.size⟩

    | true =>
      have HF2 := Lib.hid hf2
      clear hf2
      cases hf3 : fewL [(p, q)] with
      | false =>
        have HF3 := Lib.hid hf3
        clear hf3
        go_enter Try.func6, Try.ntmps6
        go_wp2_with fail
        rw [← hw0]
        clear hw0
        have hBB := hB0
        refine C1.mono ?_
        rintro e w1 ⟨rfl, hb1⟩
        replace hBB := below_chain hBB hb1 hBB.size
        replace kx1 := cell_below hb1 kx1
        replace kx2 := cell_below hb1 kx2
        replace kr := kr.below hb1
        replace kr2 := kr2.below hb1
        clear hb1
        go_wp2_with fail
        refine (few18_walk _ m w1 kr2).mono ?_
        rintro e w2 ⟨rfl, hb2⟩
        rw [HF2.out]
        replace hBB := below_chain hBB hb2 hBB.size
        replace kx1 := cell_below hb2 kx1
        replace kx2 := cell_below hb2 kx2
        replace kr := kr.below hb2
        replace kr2 := kr2.below hb2
        clear hb2
        go_wp2_with fail
        refine (few18_walk _ _ _ (row_one w2 (p, q))).mono ?_
        rintro e w3 ⟨rfl, hb3'⟩
        rw [HF3.out]
        have hb3 := below_chain ((Below.refl w2.heap.size w2).alloc (Nat.le_refl _) (.cells #[S p, S q] 31)) hb3' (by simp)
        clear hb3'
        replace hBB := below_chain hBB hb3 hBB.size
        replace kx1 := cell_below hb3 kx1
        replace kx2 := cell_below hb3 kx2
        replace kr := kr.below hb3
        replace kr2 := kr2.below hb3
        clear hb3
        go_wp2_with (go_at_call 9; refine (awake18_walk _).mono ?_; rintro e wt ⟨rfl, hbt⟩)
        go_ret
        exact ⟨rfl, below_chain hBB hbt hBB.size⟩

      | true =>
        have HF3 := Lib.hid hf3
        have hxp : p.length ≤ 1000000 ∧ q.length ≤ 1000000 := by have := (fewL_parts hf3).2 (p, q) (by simp); simp only at this; omega
        clear hf3
        cases hlm : (l == m)
        all_goals
          have HLM := Lib.hid hlm
          clear hlm
          cases hft : fitR l with
          | false =>
            have HFT := Lib.hid hft
            clear hft
            go_enter Try.func6, Try.ntmps6
            go_wp2_with fail
            rw [← hw0]
            clear hw0
            have hBB := hB0
            refine C1.mono ?_
            rintro e w1 ⟨rfl, hb1⟩
            replace hBB := below_chain hBB hb1 hBB.size
            replace kx1 := cell_below hb1 kx1
            replace kx2 := cell_below hb1 kx2
            replace kr := kr.below hb1
            replace kr2 := kr2.below hb1
            clear hb1
            go_wp2_with fail
            refine (few18_walk _ m w1 kr2).mono ?_
            rintro e w2 ⟨rfl, hb2⟩
            rw [HF2.out]
            replace hBB := below_chain hBB hb2 hBB.size
            replace kx1 := cell_below hb2 kx1
            replace kx2 := cell_below hb2 kx2
            replace kr := kr.below hb2
            replace kr2 := kr2.below hb2
            clear hb2
            go_wp2_with fail
            refine (few18_walk _ _ _ (row_one w2 (p, q))).mono ?_
            rintro e w3 ⟨rfl, hb3'⟩
            rw [HF3.out]
            have hb3 := below_chain ((Below.refl w2.heap.size w2).alloc (Nat.le_refl _) (.cells #[S p, S q] 31)) hb3' (by simp)
            clear hb3'
            replace hBB := below_chain hBB hb3 hBB.size
            replace kx1 := cell_below hb3 kx1
            replace kx2 := cell_below hb3 kx2
            replace kr := kr.below hb3
            replace kr2 := kr2.below hb3
            clear hb3
            go_wp2
            have CF1 := fun (lw : LaterOf w3) => pfit18_walk _ l lw.world (kr.below lw.below) (by omega) HL2.out
            have CF2 := fun (lw : LaterOf w3) => r18fit_walk _ l lw.world (kr.below lw.below) (by omega) HL2.out
            have CS1 := fun (lw : LaterOf w3) => psame2_walk _ _ l m lw.world (kr.below lw.below) (kr2.below lw.below) (by omega)
            have CS2 := fun (lw : LaterOf w3) => r18same_walk _ _ l m lw.world (kr.below lw.below) (kr2.below lw.below) (by omega)
            have CS3 := fun (lw : LaterOf w3) => psame2_walk _ _ l l lw.world (kr.below lw.below) (kr.below lw.below) (by omega)
            have CR1 := fun (lw : LaterOf w3) => precord_walk (p, q) goes lw.world hxp.1 hxp.2
            have CR2 := fun (lw : LaterOf w3) => r18record_walk (p, q) goes lw.world hxp.1 hxp.2
            rw [show (l == l) = true by simp] at CS3
            rw [HLM.out] at CS1 CS2
            rw [HFT.out] at CF1 CF2
            have hn1 := LaterOf.cell kx1
            have hn2 := LaterOf.cell kx2
            generalize recordR (p, q) goes = rc at *
            have hrr : (rc == rc) = true := by simp
            (refine wp_region_later (by kernel_rfl) (by kernel_rfl) ?_; (repeat (go_big_quiet_step ((first | (go_at_call 20; exact LaterOf.call _ (CF1 _)) | (go_at_call 13; exact LaterOf.call _ (CF2 _)) | (go_at_call 12; exact LaterOf.call _ (CS2 _)) | (go_at_call 21; first | exact LaterOf.call _ (CS1 _) | exact LaterOf.call _ (CS3 _)) | (go_at_call 15; exact LaterOf.call _ (CR1 _)) | (go_at_call 22; exact LaterOf.call _ (CR2 _)))))); refine wpQuiet_nil ?_; intro _ hw1; obtain ⟨lw, hw2⟩ := hw1; subst hw2)
            have hb4 := lw.below
            clear CF1 CF2 CS1 CS2 CS3 CR1 CR2 hn1 hn2 hrr
            generalize lw.world = w4 at *
            replace hBB := below_chain hBB hb4 hBB.size
            replace kx1 := cell_below hb4 kx1
            replace kx2 := cell_below hb4 kx2
            replace kr := kr.below hb4
            replace kr2 := kr2.below hb4
            clear hb4
            go_wp2_with fail
            refine (r18fit_walk _ l w4 kr (by omega) HL2.out).mono ?_
            rintro e w5 ⟨rfl, hb5⟩
            rw [HFT.out]
            replace hBB := below_chain hBB hb5 hBB.size
            replace kx1 := cell_below hb5 kx1
            replace kx2 := cell_below hb5 kx2
            replace kr := kr.below hb5
            replace kr2 := kr2.below hb5
            clear hb5
            go_wp2_with (go_at_call 9; refine (awake18_walk _).mono ?_; rintro e wt ⟨rfl, hbt⟩)
            go_ret
            exact ⟨rfl, below_chain hBB hbt hBB.size⟩

          | true =>
            have HFT := Lib.hid hft
            clear hft
            go_enter Try.func6, Try.ntmps6
            go_wp2_with fail
            rw [← hw0]
            clear hw0
            have hBB := hB0
            refine C1.mono ?_
            rintro e w1 ⟨rfl, hb1⟩
            replace hBB := below_chain hBB hb1 hBB.size
            replace kx1 := cell_below hb1 kx1
            replace kx2 := cell_below hb1 kx2
            replace kr := kr.below hb1
            replace kr2 := kr2.below hb1
            clear hb1
            go_wp2_with fail
            refine (few18_walk _ m w1 kr2).mono ?_
            rintro e w2 ⟨rfl, hb2⟩
            rw [HF2.out]
            replace hBB := below_chain hBB hb2 hBB.size
            replace kx1 := cell_below hb2 kx1
            replace kx2 := cell_below hb2 kx2
            replace kr := kr.below hb2
            replace kr2 := kr2.below hb2
            clear hb2
            go_wp2_with fail
            refine (few18_walk _ _ _ (row_one w2 (p, q))).mono ?_
            rintro e w3 ⟨rfl, hb3'⟩
            rw [HF3.out]
            have hb3 := below_chain ((Below.refl w2.heap.size w2).alloc (Nat.le_refl _) (.cells #[S p, S q] 31)) hb3' (by simp)
            clear hb3'
            replace hBB := below_chain hBB hb3 hBB.size
            replace kx1 := cell_below hb3 kx1
            replace kx2 := cell_below hb3 kx2
            replace kr := kr.below hb3
            replace kr2 := kr2.below hb3
            clear hb3
            go_wp2
            have CF1 := fun (lw : LaterOf w3) => pfit18_walk _ l lw.world (kr.below lw.below) (by omega) HL2.out
            have CF2 := fun (lw : LaterOf w3) => r18fit_walk _ l lw.world (kr.below lw.below) (by omega) HL2.out
            have CS1 := fun (lw : LaterOf w3) => psame2_walk _ _ l m lw.world (kr.below lw.below) (kr2.below lw.below) (by omega)
            have CS2 := fun (lw : LaterOf w3) => r18same_walk _ _ l m lw.world (kr.below lw.below) (kr2.below lw.below) (by omega)
            have CS3 := fun (lw : LaterOf w3) => psame2_walk _ _ l l lw.world (kr.below lw.below) (kr.below lw.below) (by omega)
            have CR1 := fun (lw : LaterOf w3) => precord_walk (p, q) goes lw.world hxp.1 hxp.2
            have CR2 := fun (lw : LaterOf w3) => r18record_walk (p, q) goes lw.world hxp.1 hxp.2
            rw [show (l == l) = true by simp] at CS3
            rw [HLM.out] at CS1 CS2
            rw [HFT.out] at CF1 CF2
            have hn1 := LaterOf.cell kx1
            have hn2 := LaterOf.cell kx2
            generalize recordR (p, q) goes = rc at *
            have hrr : (rc == rc) = true := by simp
            (refine wp_region_later (by kernel_rfl) (by kernel_rfl) ?_; (repeat (go_big_quiet_step ((first | (go_at_call 20; exact LaterOf.call _ (CF1 _)) | (go_at_call 13; exact LaterOf.call _ (CF2 _)) | (go_at_call 12; exact LaterOf.call _ (CS2 _)) | (go_at_call 21; first | exact LaterOf.call _ (CS1 _) | exact LaterOf.call _ (CS3 _)) | (go_at_call 15; exact LaterOf.call _ (CR1 _)) | (go_at_call 22; exact LaterOf.call _ (CR2 _)))))); refine wpQuiet_nil ?_; intro _ hw1; obtain ⟨lw, hw2⟩ := hw1; subst hw2)
            have hb4 := lw.below
            clear CF1 CF2 CS1 CS2 CS3 CR1 CR2 hn1 hn2 hrr
            generalize lw.world = w4 at *
            replace hBB := below_chain hBB hb4 hBB.size
            replace kx1 := cell_below hb4 kx1
            replace kx2 := cell_below hb4 kx2
            replace kr := kr.below hb4
            replace kr2 := kr2.below hb4
            clear hb4
            go_wp2_with fail
            refine (r18fit_walk _ l w4 kr (by omega) HL2.out).mono ?_
            rintro e w5 ⟨rfl, hb5⟩
            rw [HFT.out]
            replace hBB := below_chain hBB hb5 hBB.size
            replace kx1 := cell_below hb5 kx1
            replace kx2 := cell_below hb5 kx2
            replace kr := kr.below hb5
            replace kr2 := kr2.below hb5
            clear hb5
            have hll : l.length ≤ 20 := (fitR_parts HFT.out).1
            have HUP := Lib.hid (upS_of l (fitR_parts HFT.out).2.2)
            have CFa := fun w kr => pfind_walk (.slice a l.length c) l p w kr (by omega) HUP.out
            have CFb := fun w kr => r18find_walk (.slice a l.length c) l p w kr (by omega)
            have CPa := fun w kr => pput18_walk (.slice a l.length c) l (p, q) w kr (by omega) hxp.1 hxp.2 HUP.out
            have CPb := fun w kr => r18put_walk (.slice a l.length c) l (p, q) w kr (by omega) hxp.1 hxp.2
            have CDa := fun w kr => pdrop_walk (.slice a l.length c) l p w kr (by omega) HUP.out
            have CDb := fun w kr => r18drop_walk (.slice a l.length c) l p w kr (by omega)
            have CKa := fun w kr => pkeys_walk (.slice a l.length c) l w kr (by omega)
            have CKb := fun w kr => r18keys_walk (.slice a l.length c) l w kr (by omega)
            have hkl := keysR_len l
            have hfb := fitR_put HFT.out (p, q)
            have hfd := fitR_drop HFT.out p
            generalize keysR l = ks at *
            generalize rootOf (findR l p) = fr at *
            generalize (findR l p).isSome = fs at *
            generalize putE l (p, q) = pe at *
            generalize dropE l p = de at *
            obtain ⟨lb, eb⟩ := pe
            obtain ⟨ld, ed⟩ := de
            simp only at CPa CPb CDa CDb hfb hfd
            have HFB := Lib.hid hfb
            have HFD := Lib.hid hfd
            have HKL := Lib.hid hkl
            have hlb := (fitR_parts hfb).1
            have hld := (fitR_parts hfd).1
            have hkl2 : ks.length ≤ 20 := by omega
            have hlenF : ∀ z : List Snp, fitR z = true → ∀ x ∈ z, x.1.length ≤ 1000000 ∧ x.2.length ≤ 1000000 := by
              intro z hz x hx2
              have h2 := List.all_eq_true.1 (fitR_parts hz).2.1 x hx2
              simp only [eachR, Bool.and_eq_true, beq_iff_eq] at h2
              have := nameB_len h2.1
              omega
            have HLB := Lib.hid (hlenF lb hfb)
            have HLD := Lib.hid (hlenF ld hfd)
            clear hfb hfd hkl hlenF
            go_wp2_with fail
            refine (CFa _ kr).mono ?_
            rintro e w6 ⟨rfl, hb6⟩
            replace hBB := below_chain hBB hb6 hBB.size
            replace kx1 := cell_below hb6 kx1
            replace kx2 := cell_below hb6 kx2
            replace kr := kr.below hb6
            clear hb6
            go_wp2_with fail
            refine (CFb _ kr).mono ?_
            rintro e w7 ⟨rfl, hb7⟩
            replace hBB := below_chain hBB hb7 hBB.size
            replace kx1 := cell_below hb7 kx1
            replace kx2 := cell_below hb7 kx2
            replace kr := kr.below hb7
            clear hb7
            go_wp2_with fail
            refine (CPa _ kr).mono ?_
            rintro e w8 ⟨va, rfl, ra, hb8⟩
            replace hBB := below_chain hBB hb8 hBB.size
            replace kx1 := cell_below hb8 kx1
            replace kx2 := cell_below hb8 kx2
            replace kr := kr.below hb8
            clear hb8
            go_wp2_with fail
            refine (CPb _ kr).mono ?_
            rintro e w9 ⟨vb, rfl, rb, hb9⟩
            replace hBB := below_chain hBB hb9 hBB.size
            replace kx1 := cell_below hb9 kx1
            replace kx2 := cell_below hb9 kx2
            replace kr := kr.below hb9
            replace ra := ra.below hb9
            clear hb9
            go_wp2_with fail
            refine (CDa _ kr).mono ?_
            rintro e w10 ⟨vc, rfl, rc, hb10⟩
            replace hBB := below_chain hBB hb10 hBB.size
            replace kx1 := cell_below hb10 kx1
            replace kx2 := cell_below hb10 kx2
            replace kr := kr.below hb10
            replace ra := ra.below hb10
            replace rb := rb.below hb10
            clear hb10
            go_wp2_with fail
            refine (CDb _ kr).mono ?_
            rintro e w11 ⟨vd, rfl, rd, hb11⟩
            replace hBB := below_chain hBB hb11 hBB.size
            replace kr := kr.below hb11
            replace ra := ra.below hb11
            replace rb := rb.below hb11
            replace rc := rc.below hb11
            clear hb11
            go_wp2_with fail
            refine (CKa _ kr).mono ?_
            rintro e w12 ⟨ve, rfl, re, hb12⟩
            replace hBB := below_chain hBB hb12 hBB.size
            replace kr := kr.below hb12
            replace ra := ra.below hb12
            replace rb := rb.below hb12
            replace rc := rc.below hb12
            replace rd := rd.below hb12
            clear hb12
            go_wp2_with fail
            refine (CKb _ kr).mono ?_
            rintro e w13 ⟨vf, rfl, rf, hb13⟩
            replace hBB := below_chain hBB hb13 hBB.size
            replace ra := ra.below hb13
            replace rb := rb.below hb13
            replace rc := rc.below hb13
            replace rd := rd.below hb13
            replace re := re.below hb13
            clear hb13
            obtain ⟨a3, c3, rfl, hc3, hm3, hx3⟩ := re
            obtain ⟨a4, c4, rfl, hc4, hm4, hx4⟩ := rf
            have HX3 := Lib.hid hx3
            have HX4 := Lib.hid hx4
            have RA := Lib.hid ra
            have RB := Lib.hid rb
            have RC := Lib.hid rc
            have RD := Lib.hid rd
            unfold maxLen at hm3 hm4
            clear hx3 hx4 ra rb rc rd kr kx1 kx2 CFa CFb CPa CPb CDa CDb CKa CKb
            have hne : ((ks.length : Int) != (ks.length : Int)) = false := by simp
            go_wp2
            go_loopw [123] (fun i wr => ∃ k : Nat, k ≤ ks.length ∧ i = .int .i64 k ∧ Below w13.heap.size w13 wr) (fun i _ => ks.length - (intOf i).toNat)
            case atStart => exact ⟨0, Nat.zero_le _, rfl, Below.refl _ _⟩
            case round =>
              obtain ⟨k, hk, rfl, hBw⟩ := hrel
              have HBW := Lib.hid hBw
              by_cases h1 : k < ks.length
              · have h1' : (k : Int) < (ks.length : Int) := by omega
                have hx3 := HX3.out
                have hx4 := HX4.out
                rcases hx3 with hx3 | ⟨b3, o3, rfl, hx3⟩
                · exfalso; rw [hx3] at h1; simp at h1
                rcases hx4 with hx4 | ⟨b4, o4, rfl, hx4⟩
                · exfalso; rw [hx4] at h1; simp at h1
                have hq3 := cell_below hBw (str_cells hx3 h1)
                have hq4 := cell_below hBw (str_cells hx4 h1)
                clear hx3 hx4 hBw
                generalize ks[k] = s at *
                have hss : (s == s) = true := by simp
                go_wp2
                go_quiet (fail)
                go_wp2
                go_roundw
                case rel => exact ⟨k + 1, by omega, by go_num, belowN HBW.out _⟩
                case measure => simp [intOf]; omega
              · have h1' : ¬ (k : Int) < (ks.length : Int) := by omega
                have ra := RA.out.below hBw
                have rb := RB.out.below hBw
                have rc := RC.out.below hBw
                have rd := RD.out.below hBw
                replace hBB := below_chain hBB hBw hBB.size
                have hff : (fr == fr) = true := by simp
                have hee : (eb == eb) = true := by simp
                have hdd : (ed == ed) = true := by simp
                clear hBw HBW
                have C1 := r18same_walk va vb lb lb _ ra rb (by omega)
                rw [show (lb == lb) = true by simp] at C1
                cases fs
                all_goals
                  go_wp2_with fail
                  refine C1.mono ?_
                  rintro e wa ⟨rfl, hba⟩
                  have qa := ra.below hba
                  have qc := rc.below hba
                  have qd := rd.below hba
                  have hB1 := below_chain hBB hba hBB.size
                  have C2 := r18same_walk vc vd ld ld wa qc qd (by omega)
                  rw [show (ld == ld) = true by simp] at C2
                  go_wp2_with fail
                  refine C2.mono ?_
                  rintro e wb ⟨rfl, hbb⟩
                  have ta := qa.below hbb
                  have tc := qc.below hbb
                  have hB2 := below_chain hB1 hbb hB1.size
                  go_wp2_with fail
                  refine (r18fit_walk va lb wb ta (by omega) HLB.out).mono ?_
                  rintro e wc ⟨rfl, hbc⟩
                  rw [HFB.out]
                  have hB3 := below_chain hB2 hbc hB2.size
                  go_wp2_with fail
                  refine (r18fit_walk vc ld wc (tc.below hbc) (by omega) HLD.out).mono ?_
                  rintro e wd ⟨rfl, hbd⟩
                  rw [HFD.out]
                  have hB4 := below_chain hB3 hbd hB3.size
                  go_wp2_with (go_at_call 9; refine (awake18_walk _).mono ?_; rintro e wt ⟨rfl, hbt⟩)
                  go_ret
                  exact ⟨rfl, below_chain hB4 hbt hB4.size⟩

end Go.Proofs.Ytmlahfmcccpgjaa
