/- GenEdits: the walk. -/
import Derived.Test.YtdkmnolljllddaaDoorLaw30T
import Derived.Test.YtdkmnolljllddaaDoorPEdit30
import Derived.Test.YtdkmnolljllddaaDoorREdit30
namespace Go.Proofs.YtdkmnolljllddaaDoor
open Go.RowKit

theorem editT_path {P : List UInt8 → Prop} {l : List Itm} {s : Int} (h : ∀ x ∈ l, P x.1) : ∀ x ∈ editT l s, P x.1 := by
  unfold editT
  split
  · exact h
  · rename_i hne
    exact putO_path (o := some (newT l s)) h (fun y e => by cases e; exact (show P (pickT l s).1 from h _ (pickT_mem (s := s) hne).1))

set_option maxHeartbeats 4000000 in
set_option maxRecDepth 100000 in
theorem gedits_walk (v : Value) (l : List Itm) (s : Int) (w : World) (hM : Mx w) (hT : SpTab w) (hr : ItRow w v l) (hs : sizeT l ≤ 1000000000000) (hpl : ∀ x ∈ l, x.1.length ≤ 1100000) :
    Calls Tryd.prog 7 #[v, .int .u64 s] w fun e w' => e = .returned (.bool true) ∧ Below w.heap.size w w' := by
  have HM := Lib.hid hM
  have HT := Lib.hid hT
  have HR := Lib.hid hr
  have HPL := Lib.hid hpl
  obtain ⟨a, c, rfl, hc, hm, hx⟩ := hr
  clear hM hT hx hpl
  go_enter Tryd.func7, Tryd.ntmps7
  go_upto_region 1 with fail
  go_cut [19] from 11 (fun x w' => ∃ q, x = .bool q ∧ (q = false → FitT l) ∧ Below w.heap.size w w')
  case first =>
    by_cases h70 : 70 < l.length
    · have h70' : (70 : Int) < (l.length : Int) := by omega
      go_wp2
      go_meet
      case rel => exact ⟨true, by first | rfl | rw [decide_eq_true h70'], (fun h => by cases h), Below.refl _ _⟩
    have h70' : ¬ (70 : Int) < (l.length : Int) := by omega
    have CF := r10fit_walk _ l w HR.out (by omega) hs HPL.out
    cases hfb : fitTB l with
    | false =>
      rw [hfb] at CF
      go_wp2_with fail
      refine CF.mono ?_
      rintro e w1 ⟨rfl, hb1⟩
      go_wp2
      go_meet
      case rel => exact ⟨true, rfl, (fun h => by cases h), hb1⟩
    | true =>
      rw [hfb] at CF
      have HFT := Lib.hid (fitTB_iff.1 hfb)
      clear hfb
      have hsz := HFT.out.size
      go_wp2_with fail
      refine CF.mono ?_
      rintro e w1 ⟨rfl, hb1⟩
      have CS := r10size_walk _ l w1 (HR.out.below hb1) (by omega) (by omega)
      have hsz' : ¬ (66000 : Int) < (sizeT l : Int) := by omega
      generalize sizeT l = sz at *
      clear CF
      go_wp2_with fail
      refine CS.mono ?_
      rintro e w2 ⟨rfl, hb2⟩
      go_wp2
      go_meet
      case rel => exact ⟨false, by first | rfl | (congr 1; rw [decide_eq_false_iff_not]; omega), (fun _ => HFT.out), below_chain hb1 hb2 hb1.size⟩
  case rest =>
  obtain ⟨q, rfl, hq, hB⟩ := hcut
  cases q with
  | true =>
    go_wp2_with (go_at_call 18; refine (awake30_walk _ (HM.out.below hB) (HT.out.below hB)).mono ?_; rintro e w3 ⟨rfl, hb3⟩)
    go_ret
    exact ⟨rfl, below_chain hB hb3 hB.size⟩
  | false =>
  have hft := hq rfl
  have hlen := hft.len
  have hsz := hft.size
  have hfm := editT_fit (s := s) hft
  have hlm := hfm.len
  have hsm := hfm.size
  have hdl : ∀ x ∈ l, x.2.2.2.length ≤ 100000 := fun x hx => by
    have := hft.ok x hx
    unfold okT at this
    simp only [Bool.and_eq_true, decide_eq_true_eq] at this
    omega
  have hfb : fitTB (editT l s) = true := fitTB_iff.2 hfm
  have CP := fun W h hM => pedit_walk (.slice a l.length c) l s W h (by omega) hft.up (by omega) hM HPL.out hdl
  have CR := fun W h => redit_walk (.slice a l.length c) l s W h (by omega) hft.up (by omega) HPL.out hdl
  have hpm := editT_path (P := fun p => p.length ≤ 1100000) (s := s) HPL.out
  have CF := fun v W h => r10fit_walk v (editT l s) W h (by omega) (by omega) hpm
  rw [hfb] at CF
  have CS := fun v W h => r10size_walk v (editT l s) W h (by omega) (by omega)
  have CZ := fun W h => r10size_walk (.slice a l.length c) l W h (by omega) (by omega)
  have CQ := fun v v2 W h h2 => r10same_walk v v2 (editT l s) (editT l s) W h h2 (by omega) (by omega)
  rw [decide_eq_true rfl] at CQ
  have CQL := fun (hml : editT l s = l) v W h h2 => r10same_walk v (.slice a l.length c) (editT l s) l W h h2 (by omega) (by omega)
  have hsize := editT_size (s := s) hft
  clear hft hfm hfb hpm hdl hs hq
  generalize editT l s = m at *
  go_wp2_with fail
  refine (CP _ (HR.out.below hB) (HM.out.below hB)).mono ?_
  rintro e w1 ⟨v1, rfl, hr1, hb1⟩
  replace hB := below_chain hB hb1 hB.size
  clear CP hb1
  have CS1 := CS v1 w1 hr1
  obtain ⟨va, vn, vc, rfl⟩ : ∃ va vn vc, v1 = .slice va vn vc := by
    obtain ⟨va, vc, h, _⟩ := hr1
    exact ⟨va, m.length, vc, h⟩
  go_wp2_with fail
  refine CS1.mono ?_
  rintro e w2 ⟨rfl, hb2⟩
  replace hB := below_chain hB hb2 hB.size
  replace hr1 := hr1.below hb2
  clear CS CS1 hb2
  go_wp2_with fail
  refine (CZ _ (HR.out.below hB)).mono ?_
  rintro e w3 ⟨rfl, hb3⟩
  replace hB := below_chain hB hb3 hB.size
  replace hr1 := hr1.below hb3
  clear CZ hb3
  have hwr : IntKind.i64.wrap ((sizeT m : Int) - (sizeT l : Int)) = (sizeT m : Int) - (sizeT l : Int) := by rw [IntKind.wrap_i64]; omega
  go_upto_region 5 with fail
  have hRR := fun W h => CR W h
  go_wp2_with fail
  refine (CR _ (HR.out.below hB)).mono ?_
  rintro e w4 ⟨v2, rfl, hr2, hb4⟩
  replace hB := below_chain hB hb4 hB.size
  replace hr1 := hr1.below hb4
  have CQ1 := CQ _ v2 w4 hr1 hr2
  clear CR hRR CQ hb4 hr2
  go_wp2_with fail
  refine CQ1.mono ?_
  rintro e w5 ⟨rfl, hb5⟩
  replace hB := below_chain hB hb5 hB.size
  replace hr1 := hr1.below hb5
  clear CQ1 hb5
  go_wp2_with fail
  refine (CF _ _ hr1).mono ?_
  rintro e w6 ⟨rfl, hb6⟩
  replace hB := below_chain hB hb6 hB.size
  replace hr1 := hr1.below hb6
  clear CF hb6
  by_cases h1 : sizeT m = sizeT l + 1
  · have e1 : ((sizeT m : Int) - (sizeT l : Int) == 1) = true := by rw [beq_iff_eq]; omega
    clear hsize CQL
    go_wp2_with (go_at_call 18; refine (awake30_walk _ (HM.out.below hB) (HT.out.below hB)).mono ?_; rintro e w9 ⟨rfl, hb9⟩)
    go_ret
    exact ⟨rfl, below_chain hB hb9 hB.size⟩
  · have hml := hsize.resolve_right h1
    have CQ2 := CQL hml _ w6 hr1 (HR.out.below hB)
    rw [decide_eq_true hml] at CQ2
    have e0 : ((sizeT m : Int) - (sizeT l : Int) == 1) = false := by rw [beq_eq_false_iff_ne]; rw [hml]; omega
    have e1 : ((sizeT m : Int) - (sizeT l : Int) == 0) = true := by rw [beq_iff_eq]; rw [hml]; omega
    clear hsize CQL hml h1
    go_wp2_with fail
    refine CQ2.mono ?_
    rintro e w7 ⟨rfl, hb7⟩
    replace hB := below_chain hB hb7 hB.size
    clear CQ2 hb7 hr1
    go_wp2_with (go_at_call 18; refine (awake30_walk _ (HM.out.below hB) (HT.out.below hB)).mono ?_; rintro e w9 ⟨rfl, hb9⟩)
    go_ret
    exact ⟨rfl, below_chain hB hb9 hB.size⟩
end Go.Proofs.YtdkmnolljllddaaDoor
