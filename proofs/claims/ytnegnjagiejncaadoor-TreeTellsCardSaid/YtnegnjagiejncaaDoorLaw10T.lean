/- Chapter 10: what trees tell. -/
import Derived.Test.YtnegnjagiejncaaDoorLaw10D
import Derived.Test.YtnegnjagiejncaaDoorPFit10
import Derived.Test.YtnegnjagiejncaaDoorPSame10
import Derived.Test.YtnegnjagiejncaaDoorPNames10
namespace Go.Proofs.YtnegnjagiejncaaDoor
open Go.RowKit

theorem namesT_le (l : List Itm) (n : List UInt8) : (namesT l n).length ≤ l.length := by
  unfold namesT; rw [List.length_map]; exact List.length_filter_le _ _

set_option maxHeartbeats 4000000 in
set_option maxRecDepth 100000 in
theorem ttells_walk (v : Value) (l : List Itm) (v2 : Value) (m : List Itm) (n : List UInt8) (w : World) (hM : Mx w) (hr : ItRow w v l) (hr2 : ItRow w v2 m) :
    Calls Tryd.prog 7 #[v, v2, S n] w fun e w' => e = .returned (.bool true) ∧ Below w.heap.size w w' := by
  have HR := Lib.hid hr
  have HR2 := Lib.hid hr2
  have HM := Lib.hid hM
  obtain ⟨a, c, rfl, hc, hm, hx⟩ := hr
  obtain ⟨a2, c2, rfl, hc2, hm2, hx2⟩ := hr2
  clear hx hx2 hM
  go_enter Tryd.func7, Tryd.ntmps7
  go_upto_region 1 with fail
  go_cut [23] from 11 (fun s w' => ∃ q, s = .bool q ∧ (q = false → Small10 l ∧ Small10 m ∧ n.length ≤ 1000000) ∧ Below w.heap.size w w')
  case first =>
    have C1 := few10_walk _ l w HR.out
    go_wp2_with fail
    refine C1.mono ?_
    rintro e w2 ⟨rfl, hb2⟩
    cases hf1 : fewT l with
    | false =>
      go_wp2
      go_meet
      case rel => exact ⟨true, rfl, (fun h => by cases h), hb2⟩
    | true =>
    have HSM := Lib.hid (Small10.of_few hf1)
    clear hf1 C1
    have C2 := few10_walk _ m w2 (HR2.out.below hb2)
    go_wp2_with fail
    refine C2.mono ?_
    rintro e w3 ⟨rfl, hb3⟩
    have hB3 := below_chain hb2 hb3 hb2.size
    cases hf2 : fewT m with
    | false =>
      go_wp2
      go_meet
      case rel => exact ⟨true, rfl, (fun h => by cases h), hB3⟩
    | true =>
    have HSX := Lib.hid (Small10.of_few hf2)
    clear hf2 C2 hb2 hb3
    by_cases hn : n.length ≤ 400
    · have hn' : ¬ (400 : Int) < (n.length : Int) := by omega
      go_wp2
      go_meet
      case rel => exact ⟨false, by first | rfl | rw [decide_eq_false (by omega)], (fun _ => ⟨HSM.out, HSX.out, by omega⟩), hB3⟩
    · have hn' : (400 : Int) < (n.length : Int) := by omega
      go_wp2
      go_meet
      case rel => exact ⟨true, by first | rfl | rw [decide_eq_true (by omega)], (fun h => by cases h), hB3⟩
  case rest =>
  obtain ⟨q, rfl, hq, hB1⟩ := hcut
  rename_i w1
  cases q with
  | true =>
    go_wp2_with (go_at_call 17; refine (awake10_walk _ (HM.out.below hB1)).mono ?_; rintro e w3 ⟨rfl, hb3⟩)
    go_ret
    exact ⟨rfl, below_chain hB1 hb3 hB1.size⟩
  | false =>
  obtain ⟨hsm, hsm2, hn⟩ := hq rfl
  clear hq
  have hl := hsm.len
  have hl2 := hsm2.len
  have CPF := fun W h hM => pfit10_walk (.slice a l.length c) l W h (by omega) (by have := hsm.size; omega) hM hsm.path
  have CRF := fun W h => r10fit_walk (.slice a l.length c) l W h (by omega) (by have := hsm.size; omega) hsm.path
  have CPS := fun W h h2 => psame10_walk (.slice a l.length c) (.slice a2 m.length c2) l m W h h2 (by omega) (by omega)
  have CRS := fun W h h2 => r10same_walk (.slice a l.length c) (.slice a2 m.length c2) l m W h h2 (by omega) (by omega)
  have CPL := fun W h => psame10_walk (.slice a l.length c) (.slice a l.length c) l l W h h (by omega) (by omega)
  rw [decide_eq_true rfl] at CPL
  have HFT := Lib.hid (fun h : fitTB l = true => fitTB_iff.1 h)
  have HSM := Lib.hid hsm
  clear hsm hsm2
  generalize decide (l = m) = sm at *
  generalize fitTB l = fb at *
  go_wp2_with fail
  refine (CPF _ (HR.out.below hB1) (HM.out.below hB1)).mono ?_
  rintro e w2 ⟨rfl, hb2⟩
  replace hB1 := below_chain hB1 hb2 hB1.size
  clear hb2 CPF
  go_wp2_with fail
  refine (CRF _ (HR.out.below hB1)).mono ?_
  rintro e w3 ⟨rfl, hb3⟩
  replace hB1 := below_chain hB1 hb3 hB1.size
  clear hb3
  have hbb : (fb != fb) = false := by simp
  have hss : (sm != sm) = false := by simp
  go_wp2_with fail
  refine (CPS _ (HR.out.below hB1) (HR2.out.below hB1)).mono ?_
  rintro e w4 ⟨rfl, hb4⟩
  replace hB1 := below_chain hB1 hb4 hB1.size
  clear hb4 CPS
  go_wp2_with fail
  refine (CRS _ (HR.out.below hB1) (HR2.out.below hB1)).mono ?_
  rintro e w5 ⟨rfl, hb5⟩
  replace hB1 := below_chain hB1 hb5 hB1.size
  clear hb5 CRS
  go_wp2_with fail
  refine (CPL _ (HR.out.below hB1)).mono ?_
  rintro e w6 ⟨rfl, hb6⟩
  replace hB1 := below_chain hB1 hb6 hB1.size
  clear hb6 CPL
  go_wp2_with fail
  refine (CRF _ (HR.out.below hB1)).mono ?_
  rintro e w7 ⟨rfl, hb7⟩
  replace hB1 := below_chain hB1 hb7 hB1.size
  clear hb7 CRF hbb hss
  cases fb with
  | false =>
    go_wp2_with (go_at_call 17; refine (awake10_walk _ (HM.out.below hB1)).mono ?_; rintro e w8 ⟨rfl, hb8⟩)
    go_ret
    exact ⟨rfl, below_chain hB1 hb8 hB1.size⟩
  | true =>
  have hft := HFT.out rfl
  have hsm := HSM.out
  have hfb : ∀ x ∈ l, fitB x.1 = true := fun x hx => by have := hft.ok x hx; unfold okT at this; simp only [Bool.and_eq_true] at this; exact this.1
  have CPI := fun W h hM => pfind10_walk (.slice a l.length c) l n W h (by omega) hft.up hM hn hsm.path
  have CRI := fun W h => r10find_walk (.slice a l.length c) l n W h (by omega)
  have CPN := fun W h hM => pnames10_walk (.slice a l.length c) l n W h (by omega) hM hsm.path hfb
  have CRN := fun W h => r10names_walk (.slice a l.length c) l n W h (by omega) hsm.path hfb
  have CPZ := fun W h => pSize10_walk (.slice a l.length c) l W h (by omega) (by have := hsm.size; omega)
  have CRZ := fun W h => r10size_walk (.slice a l.length c) l W h (by omega) (by have := hsm.size; omega)
  have hnl := namesT_le l n
  clear hft hsm hfb HFT
  unfold findV at CPI CRI
  generalize (findT l n).getD zItm = o at *
  generalize (findT l n).isSome = ok at *
  generalize namesT l n = nt at *
  generalize sizeT l = sz at *
  obtain ⟨op, odr, oe, ot⟩ := o
  go_wp2_with fail
  refine (CPI _ (HR.out.below hB1) (HM.out.below hB1)).mono ?_
  rintro e w8 ⟨rfl, hb8⟩
  replace hB1 := below_chain hB1 hb8 hB1.size
  clear hb8 CPI
  go_upto_region 8 with fail
  obtain ⟨w9, hw9, hb9, hz⟩ : ∃ w9, w9 = w8.alloc (.cells #[S op, .bool odr, .bool oe, S ot] 32) ∧ Below w8.heap.size w8 w9 ∧ w9.heap[w8.heap.size]? = some (.cells #[S op, .bool odr, .bool oe, S ot] 32 (0, 0)) :=
    ⟨_, rfl, (Below.refl _ _).alloc (Nat.le_refl _) _, heap_alloc_new _ _⟩
  rw [← hw9]
  clear hw9
  replace hB1 := below_chain hB1 hb9 hB1.size
  clear hb9
  obtain ⟨⟨z0, z1, z2, z3⟩, -, -⟩ := box4 hz
  clear hz
  go_wp2_with fail
  refine (CRI _ (HR.out.below hB1)).mono ?_
  rintro e w10 ⟨rfl, hb10⟩
  (replace z0 := cell_below hb10 z0; replace z1 := cell_below hb10 z1; replace z2 := cell_below hb10 z2; replace z3 := cell_below hb10 z3; replace hB1 := below_chain hB1 hb10 hB1.size; clear hb10)
  clear CRI
  go_upto_region 9 with fail
  obtain ⟨w11, hw11, hb11, hz⟩ : ∃ w11, w11 = w10.alloc (.cells #[S op, .bool odr, .bool oe, S ot] 32) ∧ Below w10.heap.size w10 w11 ∧ w11.heap[w10.heap.size]? = some (.cells #[S op, .bool odr, .bool oe, S ot] 32 (0, 0)) :=
    ⟨_, rfl, (Below.refl _ _).alloc (Nat.le_refl _) _, heap_alloc_new _ _⟩
  rw [← hw11]
  clear hw11
  (replace z0 := cell_below hb11 z0; replace z1 := cell_below hb11 z1; replace z2 := cell_below hb11 z2; replace z3 := cell_below hb11 z3; replace hB1 := below_chain hB1 hb11 hB1.size; clear hb11)
  obtain ⟨⟨y0, y1, y2, y3⟩, -, -⟩ := box4 hz
  clear hz
  have hoo : (ok == ok) = true := by simp
  go_wp2_with fail
  refine (CPN _ (HR.out.below hB1) (HM.out.below hB1)).mono ?_
  rintro e w12 ⟨vn, rfl, hrn, hb12⟩
  replace hB1 := below_chain hB1 hb12 hB1.size
  clear hb12 CPN y0 y1 y2 y3 z0 z1 z2 z3
  go_wp2_with fail
  refine (CRN _ (HR.out.below hB1)).mono ?_
  rintro e w13 ⟨vm, rfl, hrm, hb13⟩
  replace hB1 := below_chain hB1 hb13 hB1.size
  have CE := same10_walk vn vm nt nt w13 (hrn.below hb13) hrm (by omega) (by omega)
  rw [show (nt == nt) = true by simp] at CE
  clear hb13 CRN hrn hrm
  go_wp2_with fail
  refine CE.mono ?_
  rintro e w14 ⟨rfl, hb14⟩
  replace hB1 := below_chain hB1 hb14 hB1.size
  clear hb14 CE
  go_wp2_with fail
  refine (CPZ _ (HR.out.below hB1)).mono ?_
  rintro e w15 ⟨rfl, hb15⟩
  replace hB1 := below_chain hB1 hb15 hB1.size
  clear hb15 CPZ
  go_wp2_with fail
  refine (CRZ _ (HR.out.below hB1)).mono ?_
  rintro e w16 ⟨rfl, hb16⟩
  replace hB1 := below_chain hB1 hb16 hB1.size
  clear hb16 CRZ
  go_wp2_with (go_at_call 17; refine (awake10_walk _ (HM.out.below hB1)).mono ?_; rintro e w17 ⟨rfl, hb17⟩)
  go_ret
  exact ⟨rfl, below_chain hB1 hb17 hB1.size⟩
end Go.Proofs.YtnegnjagiejncaaDoor
