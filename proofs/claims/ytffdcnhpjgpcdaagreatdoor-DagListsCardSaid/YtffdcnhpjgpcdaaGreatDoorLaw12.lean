/- DagLists, DagAdds: objects that are fit, the same, got, added. -/
import Derived.Test.YtffdcnhpjgpcdaaGreatDoorPOb12
import Derived.Test.YtffdcnhpjgpcdaaGreatDoorDagB0
namespace Go.Proofs.YtffdcnhpjgpcdaaGreatDoor
open Go.RowKit

theorem snp_row_one (w : World) (x : Snp) : SnpRow (w.alloc (.cells #[S x.1, S x.2] 24)) (.slice (some ⟨w.heap.size, 0, none⟩) 1 1) [x] := by
  refine ⟨some ⟨w.heap.size, 0, none⟩, 1, rfl, Nat.le_refl _, by unfold maxLen; omega, .inr ⟨w.heap.size, 0, rfl, fun j y hj i u hu => ?_⟩⟩
  match j, hj with
  | 0, hj =>
    cases hj
    match i, hu with
    | 0, hu => cases hu; exact cell_new w #[S x.1, S x.2] 24 0 rfl
    | 1, hu => cases hu; exact cell_new w #[S x.1, S x.2] 24 1 rfl
def SmallPost12 (l : List Snp) (w : World) (e : Ending) (w' : World) : Prop := ∃ b : Bool, e = .returned (.bool b) ∧ (b = true → l.length ≤ 300) ∧ Below w.heap.size w w'

set_option maxHeartbeats 4000000 in
set_option maxRecDepth 100000 in
theorem small12_walk (v : Value) (l : List Snp) (w : World) (hr : SnpRow w v l) :
    Calls Tryz.prog 5 #[v] w (SmallPost12 l w) := by
  have HNO := Lib.hid (fun (w' : World) (hB : Below w.heap.size w w') => show SmallPost12 l w (.returned (.bool false)) w' from ⟨false, rfl, (fun h => by cases h), hB⟩)
  obtain ⟨a, c, rfl, hc, hm, hx⟩ := hr
  have HX := Lib.hid hx
  clear hx
  by_cases h300 : 300 < l.length
  · have h1' : (300 : Int) < (l.length : Int) := by omega
    go_enter Tryz.func5, Tryz.ntmps5
    go_wp2
    go_ret
    exact HNO.out _ (Below.refl _ _)
  have h1' : ¬ (300 : Int) < (l.length : Int) := by omega
  have HYES := Lib.hid (fun (w' : World) (hB : Below w.heap.size w w') => show SmallPost12 l w (.returned (.bool true)) w' from ⟨true, rfl, (fun _ => by omega), hB⟩)
  clear h300
  go_enter Tryz.func5, Tryz.ntmps5
  go_wp2
  go_loopw [10] (fun i wr => ∃ k : Nat, k ≤ l.length ∧ i = .int .i64 k ∧ Below w.heap.size w wr) (fun i _ => l.length - (intOf i).toNat)
  case atStart => exact ⟨0, Nat.zero_le _, rfl, Below.refl _ _⟩
  case round =>
    obtain ⟨k, hk, rfl, hB⟩ := hrel
    have HB := Lib.hid hB
    by_cases h2 : k < l.length
    · have h2' : (k : Int) < (l.length : Int) := by omega
      have hx := HX.out
      rcases hx with hx | ⟨b, o, rfl, hx⟩
      · exfalso; rw [hx] at h2; simp at h2
      obtain ⟨hx1, hx2⟩ := snp_cells hx h2
      have hc1 := cell_below hB hx1
      have hc2 := cell_below hB hx2
      clear hx hx1 hx2 hB
      generalize l[k] = y at *
      obtain ⟨p, q⟩ := y
      by_cases h4 : 100 < p.length
      · have h4' : (100 : Int) < (p.length : Int) := by omega
        go_wp2
        go_ret
        exact HNO.out _ (HB.out.alloc HB.out.size _)
      have h4' : ¬ (100 : Int) < (p.length : Int) := by omega
      clear h4
      go_wp2
      go_roundw
      case rel => exact ⟨k + 1, by omega, by go_num, HB.out.alloc HB.out.size _⟩
      case measure => simp [intOf]; omega
    · have h2' : ¬ (k : Int) < (l.length : Int) := by omega
      go_wp2
      go_ret
      exact HYES.out _ HB.out

set_option maxHeartbeats 4000000 in
set_option maxRecDepth 100000 in
theorem awake12_walk (w : World) : Calls Tryz.prog 7 #[] w fun e w' => e = .returned (.bool true) ∧ Below w.heap.size w w' := by
  obtain ⟨kk, hkk⟩ : ∃ kk, shaF raw0 = kk := ⟨_, rfl⟩
  have C := build0_walk 2 4 8 kk hkk w
  clear hkk
  go_enter Tryz.func7, Tryz.ntmps7
  go_wp2_with fail
  refine C.mono ?_
  rintro e w1 ⟨v, rfl, ⟨a, c, rfl, hc, hm, hx⟩, hb1⟩
  have hlen : (([(kk, raw0)] : List Snp).length : Int) = 1 := rfl
  rcases hx with hx | ⟨b, o, rfl, hx⟩
  · cases hx
  obtain ⟨hx1, hx2⟩ := snp_cells hx (j := 0) (by simp)
  simp only [Nat.zero_mul, Nat.add_zero, List.getElem_cons_zero] at hx1 hx2
  have hlt : (0 : Int) < (([(kk, raw0)] : List Snp).length : Int) := by simp
  clear hx C hc hm
  go_wp2
  go_ret
  exact ⟨rfl, hb1⟩

set_option maxHeartbeats 8000000 in
set_option maxRecDepth 100000 in
theorem lists12_walk (lv mv : Value) (l m : List Snp) (x : Snp) (w : World) (hl : SnpRow w lv l) (hm : SnpRow w mv m) :
    Calls Tryz.prog 4 #[lv, mv, SnpV x] w fun e w' => e = .returned (.bool true) ∧ Below w.heap.size w w' := by
  obtain ⟨p, q⟩ := x
  have HL := Lib.hid hl
  have HM := Lib.hid hm
  obtain ⟨la, lc, rfl, -⟩ := hl
  obtain ⟨ma, mc, rfl, -⟩ := hm
  obtain ⟨w1, hw1, HB1, hx1⟩ : ∃ w1, w1 = w.alloc (.cells #[S p, S q] 24) ∧ Hid (Below w.heap.size w w1) ∧ w1.heap[w.heap.size]? = some (.cells #[S p, S q] 24 (0, 0)) := ⟨_, rfl, (Below.refl _ _).alloc (Nat.le_refl _) _, heap_alloc_new w _⟩
  have HX1 := Lib.hid hx1
  have C1 := small12_walk (.slice la l.length lc) l w1 (HL.out.below HB1.out)
  have c1 := heap_cell hx1 (j := 0) (v := S p) rfl
  have c2 := heap_cell hx1 (j := 1) (v := S q) rfl
  clear hx1
  go_enter Tryz.func4, Tryz.ntmps4
  go_upto_region 1 with fail
  rw [← hw1]
  clear hw1
  go_wp2_with fail
  refine C1.mono ?_
  rintro e w2 ⟨b1, rfl, hs1, hb2⟩
  have HB2 := Lib.hid (HB1.out.trans (hb2.mono HB1.out.size))
  have HX2 := Lib.hid (keptD hb2 HX1.out)
  have HS1 := Lib.hid hs1
  clear C1 c1 c2 hb2 hs1
  cases b1 with
  | false => (have CA := awake12_walk w2; go_wp2_with fail; refine CA.mono ?_; rintro e wy ⟨rfl, hby⟩; have hBy := below_chain HB2.out hby (Below.size HB2.out); go_wp2; go_ret; exact ⟨rfl, hBy⟩)
  | true =>
  have C2 := small12_walk (.slice ma m.length mc) m w2 (HM.out.below HB2.out)
  go_wp2_with fail
  refine C2.mono ?_
  rintro e w3 ⟨b2, rfl, hs2, hb3⟩
  have HB3 := Lib.hid (HB2.out.trans (hb3.mono HB2.out.size))
  have HX3 := Lib.hid (keptD hb3 HX2.out)
  have HS2 := Lib.hid hs2
  clear C2 hb3 hs2
  cases b2 with
  | false => (have CA := awake12_walk w3; go_wp2_with fail; refine CA.mono ?_; rintro e wy ⟨rfl, hby⟩; have hBy := below_chain HB3.out hby (Below.size HB3.out); go_wp2; go_ret; exact ⟨rfl, hBy⟩)
  | true =>
  have c1 := heap_cell HX3.out (j := 0) (v := S p) rfl
  have c2 := heap_cell HX3.out (j := 1) (v := S q) rfl
  have C3 := small12_walk _ [(p, q)] _ (snp_row_one w3 (p, q))
  go_wp2_with fail
  refine C3.mono ?_
  rintro e w4 ⟨b3, rfl, -, hb4⟩
  have hb34 : Below w3.heap.size w3 w4 := ((Below.refl _ _).alloc (Nat.le_refl _) _).trans (hb4.mono (by simp))
  have HB4 := Lib.hid (HB3.out.trans (hb34.mono HB3.out.size))
  have HX4 := Lib.hid (keptD hb34 HX3.out)
  clear C3 c1 c2 hb4 hb34
  cases b3 with
  | false => (have CA := awake12_walk w4; go_wp2_with fail; refine CA.mono ?_; rintro e wy ⟨rfl, hby⟩; have hBy := below_chain HB4.out hby (Below.size HB4.out); go_wp2; go_ret; exact ⟨rfl, hBy⟩)
  | true =>
  have hll : l.length ≤ 300 := by have := HS1.out; simpa using this
  have hml : m.length ≤ 300 := by have := HS2.out; simpa using this
  have C4 := pfitO_walk (.slice la l.length lc) l w4 (HL.out.below HB4.out) (by omega)
  have C5 := fun (W : World) (hb : Below w4.heap.size w4 W) => rfitO_walk (.slice la l.length lc) l W ((HL.out.below HB4.out).below hb) (by omega)
  obtain ⟨f, hf⟩ : ∃ f, fit5 (namesR l) = f := ⟨_, rfl⟩
  have HF := Lib.hid hf
  rw [hf] at C4 C5
  have hff : (f != f) = false := by simp
  clear hf
  go_wp2_with fail
  refine C4.mono ?_
  rintro e w5 ⟨rfl, hb5⟩
  have C5a := C5 w5 hb5
  clear C4
  go_wp2_with fail
  refine C5a.mono ?_
  rintro e w6 ⟨rfl, hb6⟩
  have hb46 := hb5.trans (hb6.mono hb5.size)
  have HB6 := Lib.hid (HB4.out.trans (hb46.mono HB4.out.size))
  have HX6 := Lib.hid (keptD hb46 HX4.out)
  have HB46 := Lib.hid hb46
  obtain ⟨sb, hsb⟩ : ∃ sb, (l == m) = sb := ⟨_, rfl⟩
  have C6 := psameO2_walk (.slice la l.length lc) (.slice ma m.length mc) l m w6 (HL.out.below HB6.out) (HM.out.below HB6.out) (by omega)
  have C7 := fun (W : World) (hb : Below w6.heap.size w6 W) => r12same_walk (.slice la l.length lc) (.slice ma m.length mc) l m W ((HL.out.below HB6.out).below hb) ((HM.out.below HB6.out).below hb) (by omega)
  rw [hsb] at C6 C7
  have hss : (sb != sb) = false := by simp
  clear hsb C5a hb5 hb6 hb46
  go_wp2_with fail
  refine C6.mono ?_
  rintro e w7 ⟨rfl, hb7⟩
  have C7a := C7 w7 hb7
  clear C6
  go_wp2_with fail
  refine C7a.mono ?_
  rintro e w8 ⟨rfl, hb8⟩
  have HB68 := Lib.hid (hb7.trans (hb8.mono hb7.size))
  have HB8 := Lib.hid (HB6.out.trans (HB68.out.mono HB6.out.size))
  have HX8 := Lib.hid (keptD HB68.out HX6.out)
  have C8 := psameO2_walk (.slice la l.length lc) (.slice la l.length lc) l l w8 (HL.out.below HB8.out) (HL.out.below HB8.out) (by omega)
  rw [show (l == l) = true by simp] at C8
  clear C7a C7 hb7 hb8
  go_wp2_with fail
  refine C8.mono ?_
  rintro e w9 ⟨rfl, hb9⟩
  have HB9 := Lib.hid (HB8.out.trans (hb9.mono HB8.out.size))
  have HX9 := Lib.hid (keptD hb9 HX8.out)
  have C9 := C5 w9 (HB46.out.trans ((HB68.out.trans (hb9.mono HB68.out.size)).mono HB46.out.size))
  clear C8 hb9 C5
  go_wp2_with fail
  refine C9.mono ?_
  rintro e wa ⟨rfl, hba⟩
  have HBA := Lib.hid (HB9.out.trans (hba.mono HB9.out.size))
  have HXA := Lib.hid (keptD hba HX9.out)
  clear C9 hba hff hss
  cases f with
  | false => (have CA := awake12_walk wa; go_wp2_with fail; refine CA.mono ?_; rintro e wy ⟨rfl, hby⟩; have hBy := below_chain HBA.out hby (Below.size HBA.out); go_wp2; go_ret; exact ⟨rfl, hBy⟩)
  | true =>
  have HUP := Lib.hid (fit5_up12 HF.out)
  have HFA := Lib.hid (addO_fit (x := (p, q)) HF.out)
  have c1 := heap_cell HXA.out (j := 0) (v := S p) rfl
  have c2 := heap_cell HXA.out (j := 1) (v := S q) rfl
  have CG := pget_walk (.slice la l.length lc) l p wa (HL.out.below HBA.out) (by omega) HUP.out
  generalize hfr : rootOf (findR l p) = fr at *
  generalize hfi : (findR l p).isSome = fi at *
  go_wp2_with fail
  refine CG.mono ?_
  rintro e wb ⟨rfl, hbb⟩
  have HBB := Lib.hid (HBA.out.trans (hbb.mono HBA.out.size))
  have HXB := Lib.hid (keptD hbb HXA.out)
  have CR := rget_walk (.slice la l.length lc) l p wb (HL.out.below HBB.out) (by omega)
  rw [hfr, hfi] at CR
  clear CG c1 c2 hbb hfr hfi
  have c1 := heap_cell HXB.out (j := 0) (v := S p) rfl
  have c2 := heap_cell HXB.out (j := 1) (v := S q) rfl
  go_wp2_with fail
  refine CR.mono ?_
  rintro e wc ⟨rfl, hbc⟩
  have HBC := Lib.hid (HBB.out.trans (hbc.mono HBB.out.size))
  have HXC := Lib.hid (keptD hbc HXB.out)
  clear CR c1 c2 hbc
  have c1 := heap_cell HXC.out (j := 0) (v := S p) rfl
  have c2 := heap_cell HXC.out (j := 1) (v := S q) rfl
  obtain ⟨al, hal⟩ : ∃ al, addO l (p, q) = al := ⟨_, rfl⟩
  have CA1 := paddO_walk (.slice la l.length lc) l (p, q) wc (HL.out.below HBC.out) (by omega) HUP.out
  have CA2 := fun (W : World) (hb : Below wc.heap.size wc W) => r12add_walk (.slice la l.length lc) l (p, q) W ((HL.out.below HBC.out).below hb) (by omega)
  have hall : al.length ≤ 301 := by rw [← hal]; exact Nat.le_trans (addO_len l (p, q)) (by omega)
  rw [hal] at CA1 CA2 HFA
  clear hal
  go_wp2_with fail
  refine CA1.mono ?_
  rintro e wd ⟨vd, rfl, hrd, hbd⟩
  have HRD := Lib.hid hrd
  obtain ⟨da, dc, rfl, -⟩ := hrd
  have HBD := Lib.hid (HBC.out.trans (hbd.mono HBC.out.size))
  have HXD := Lib.hid (keptD hbd HXC.out)
  have CA2a := CA2 wd hbd
  clear CA1 CA2 c1 c2 hbd
  have c1 := heap_cell HXD.out (j := 0) (v := S p) rfl
  have c2 := heap_cell HXD.out (j := 1) (v := S q) rfl
  go_wp2_with fail
  refine CA2a.mono ?_
  rintro e we ⟨ve, rfl, hre, hbe⟩
  have HRE := Lib.hid hre
  obtain ⟨ea, ec, rfl, -⟩ := hre
  have HRD2 := Lib.hid (HRD.out.below hbe)
  have HBE := Lib.hid (HBD.out.trans (hbe.mono HBD.out.size))
  have CS := r12same_walk (.slice da al.length dc) (.slice ea al.length ec) al al we HRD2.out HRE.out (by omega)
  rw [show (al == al) = true by simp] at CS
  clear CA2a c1 c2 hbe
  go_wp2_with fail
  refine CS.mono ?_
  rintro e wf ⟨rfl, hbf⟩
  have HBF := Lib.hid (HBE.out.trans (hbf.mono HBE.out.size))
  have CF := rfitO_walk (.slice da al.length dc) al wf (HRD2.out.below hbf) (by omega)
  rw [HFA.out] at CF
  clear CS hbf
  go_wp2_with fail
  refine CF.mono ?_
  rintro e wg ⟨rfl, hbg⟩
  have HBG := Lib.hid (HBF.out.trans (hbg.mono HBF.out.size))
  clear CF hbg
  (have CA := awake12_walk wg; go_wp2_with fail; refine CA.mono ?_; rintro e wy ⟨rfl, hby⟩; have hBy := below_chain HBG.out hby (Below.size HBG.out); go_wp2; go_ret; exact ⟨rfl, hBy⟩)

set_option maxHeartbeats 8000000 in
set_option maxRecDepth 100000 in
theorem adds12_walk (lv : Value) (l : List Snp) (x : Snp) (w : World) (hl : SnpRow w lv l) :
    Calls Tryz.prog 3 #[lv, SnpV x] w fun e w' => e = .returned (.bool true) ∧ Below w.heap.size w w' := by
  obtain ⟨p, q⟩ := x
  have HL := Lib.hid hl
  obtain ⟨la, lc, rfl, _, _, hlx⟩ := hl
  have HLX := Lib.hid hlx
  obtain ⟨w1, hw1, HB1, hx1⟩ : ∃ w1, w1 = w.alloc (.cells #[S p, S q] 24) ∧ Hid (Below w.heap.size w w1) ∧ w1.heap[w.heap.size]? = some (.cells #[S p, S q] 24 (0, 0)) := ⟨_, rfl, (Below.refl _ _).alloc (Nat.le_refl _) _, heap_alloc_new w _⟩
  have HX1 := Lib.hid hx1
  have C1 := small12_walk (.slice la l.length lc) l w1 (HL.out.below HB1.out)
  clear hx1 hlx
  go_enter Tryz.func3, Tryz.ntmps3
  go_upto_region 1 with fail
  rw [← hw1]
  clear hw1
  go_wp2_with fail
  refine C1.mono ?_
  rintro e w2 ⟨b1, rfl, hs1, hb2⟩
  have HB2 := Lib.hid (HB1.out.trans (hb2.mono HB1.out.size))
  have HX2 := Lib.hid (keptD hb2 HX1.out)
  have HS1 := Lib.hid hs1
  clear C1 hb2 hs1
  cases b1 with
  | false => (have CA := awake12_walk w2; go_wp2_with fail; refine CA.mono ?_; rintro e wy ⟨rfl, hby⟩; have hBy := below_chain HB2.out hby (Below.size HB2.out); go_wp2; go_ret; exact ⟨rfl, hBy⟩)
  | true =>
  have c1 := heap_cell HX2.out (j := 0) (v := S p) rfl
  have c2 := heap_cell HX2.out (j := 1) (v := S q) rfl
  have C3 := small12_walk _ [(p, q)] _ (snp_row_one w2 (p, q))
  go_wp2_with fail
  refine C3.mono ?_
  rintro e w4 ⟨b3, rfl, -, hb4⟩
  have hb34 : Below w2.heap.size w2 w4 := ((Below.refl _ _).alloc (Nat.le_refl _) _).trans (hb4.mono (by simp))
  have HB4 := Lib.hid (HB2.out.trans (hb34.mono HB2.out.size))
  have HX4 := Lib.hid (keptD hb34 HX2.out)
  clear C3 c1 c2 hb4 hb34
  cases b3 with
  | false => (have CA := awake12_walk w4; go_wp2_with fail; refine CA.mono ?_; rintro e wy ⟨rfl, hby⟩; have hBy := below_chain HB4.out hby (Below.size HB4.out); go_wp2; go_ret; exact ⟨rfl, hBy⟩)
  | true =>
  have hll : l.length ≤ 300 := by have := HS1.out; simpa using this
  have C5 := rfitO_walk (.slice la l.length lc) l w4 (HL.out.below HB4.out) (by omega)
  obtain ⟨f, hf⟩ : ∃ f, fit5 (namesR l) = f := ⟨_, rfl⟩
  have HF := Lib.hid hf
  rw [hf] at C5
  clear hf
  go_wp2_with fail
  refine C5.mono ?_
  rintro e wa ⟨rfl, hba⟩
  have HBA := Lib.hid (HB4.out.trans (hba.mono HB4.out.size))
  have HXA := Lib.hid (keptD hba HX4.out)
  clear C5 hba
  cases f with
  | false => (have CA := awake12_walk wa; go_wp2_with fail; refine CA.mono ?_; rintro e wy ⟨rfl, hby⟩; have hBy := below_chain HBA.out hby (Below.size HBA.out); go_wp2; go_ret; exact ⟨rfl, hBy⟩)
  | true =>
  have HUP := Lib.hid (fit5_up12 HF.out)
  have HFA := Lib.hid (fit5_up12 (addO_fit (x := (p, q)) HF.out))
  have c1 := heap_cell HXA.out (j := 0) (v := S p) rfl
  have c2 := heap_cell HXA.out (j := 1) (v := S q) rfl
  have CA1 := paddO_walk (.slice la l.length lc) l (p, q) wa (HL.out.below HBA.out) (by omega) HUP.out
  have HD := Lib.hid (show addO l (p, q) = if (findR l p).isSome = true ∨ p.length ≠ 32 then l else insR l (p, q) from rfl)
  have HFI := Lib.hid (findR_is (n := p) HUP.out)
  obtain ⟨al, hal⟩ : ∃ al, addO l (p, q) = al := ⟨_, rfl⟩
  have hall : al.length ≤ 301 := by rw [← hal]; exact Nat.le_trans (addO_len l (p, q)) (by omega)
  rw [hal] at CA1 HFA HD
  clear hal
  go_wp2_with fail
  refine CA1.mono ?_
  rintro e wb ⟨vb, rfl, hrb, hbb⟩
  have HRB := Lib.hid hrb
  obtain ⟨da, dc, rfl, -⟩ := hrb
  have HBB := Lib.hid (HBA.out.trans (hbb.mono HBA.out.size))
  have HXB := Lib.hid (keptD hbb HXA.out)
  clear CA1 c1 c2 hbb
  have c1 := heap_cell HXB.out (j := 0) (v := S p) rfl
  have c2 := heap_cell HXB.out (j := 1) (v := S q) rfl
  have CG1 := pget_walk (.slice da al.length dc) al p wb HRB.out (by omega) HFA.out
  obtain ⟨r1, hr1⟩ : ∃ r1, rootOf (findR al p) = r1 := ⟨_, rfl⟩
  obtain ⟨i1, hi1⟩ : ∃ i1, (findR al p).isSome = i1 := ⟨_, rfl⟩
  rw [hr1, hi1] at CG1
  have HR1 := Lib.hid hr1
  have HI1 := Lib.hid hi1
  clear hr1 hi1
  go_wp2_with fail
  refine CG1.mono ?_
  rintro e wc ⟨rfl, hbc⟩
  have HRC := Lib.hid (HRB.out.below hbc)
  have HBC := Lib.hid (HBB.out.trans (hbc.mono HBB.out.size))
  have HXC := Lib.hid (keptD hbc HXB.out)
  clear CG1 c1 c2 hbc
  have c1 := heap_cell HXC.out (j := 0) (v := S p) rfl
  have c2 := heap_cell HXC.out (j := 1) (v := S q) rfl
  have CG2 := pget_walk (.slice la l.length lc) l p wc (HL.out.below HBC.out) (by omega) HUP.out
  obtain ⟨r2, hr2⟩ : ∃ r2, rootOf (findR l p) = r2 := ⟨_, rfl⟩
  obtain ⟨i2, hi2⟩ : ∃ i2, (findR l p).isSome = i2 := ⟨_, rfl⟩
  rw [hr2, hi2] at CG2
  rw [hi2] at HD HFI
  have HR2 := Lib.hid hr2
  have HI2 := Lib.hid hi2
  clear hr2 hi2
  go_wp2_with fail
  refine CG2.mono ?_
  rintro e wd ⟨rfl, hbd⟩
  have HRD := Lib.hid (HRC.out.below hbd)
  have HBD := Lib.hid (HBC.out.trans (hbd.mono HBC.out.size))
  have HXD := Lib.hid (keptD hbd HXC.out)
  clear CG2 c1 c2 hbd
  have c1 := heap_cell HXD.out (j := 0) (v := S p) rfl
  have c2 := heap_cell HXD.out (j := 1) (v := S q) rfl
  by_cases hkeep : i2 = true ∨ p.length ≠ 32
  · have HAL := Lib.hid (show al = l from HD.out.trans (if_pos hkeep))
    have CS := r12same_walk (.slice da al.length dc) (.slice la l.length lc) al l wd HRD.out (HL.out.below HBD.out) (by omega)
    rw [show (al == l) = true by rw [HAL.out]; simp] at CS
    cases i2 with
    | true =>
      have hrr : (r1 == r2) = true := by rw [← HR1.out, ← HR2.out, HAL.out]; simp
      clear hkeep
      go_wp2_with fail
      refine CS.mono ?_
      rintro e we ⟨rfl, hbe⟩
      have HBE := Lib.hid (HBD.out.trans (hbe.mono HBD.out.size))
      clear CS hbe c1 c2
      (have CA := awake12_walk we; go_wp2_with fail; refine CA.mono ?_; rintro e wy ⟨rfl, hby⟩; have hBy := below_chain HBE.out hby (Below.size HBE.out); go_wp2; go_ret; exact ⟨rfl, hBy⟩)
    | false =>
      have h32 : ((p.length : Int) != 32) = true := by
        rw [bne_iff_ne]
        rcases hkeep with h | h
        · cases h
        · omega
      clear hkeep
      go_wp2_with fail
      refine CS.mono ?_
      rintro e we ⟨rfl, hbe⟩
      have HBE := Lib.hid (HBD.out.trans (hbe.mono HBD.out.size))
      clear CS hbe c1 c2
      (have CA := awake12_walk we; go_wp2_with fail; refine CA.mono ?_; rintro e wy ⟨rfl, hby⟩; have hBy := below_chain HBE.out hby (Below.size HBE.out); go_wp2; go_ret; exact ⟨rfl, hBy⟩)
  have hi2f : i2 = false := by cases i2 with
    | false => rfl
    | true => exact absurd (.inl rfl) hkeep
  subst hi2f
  have h32 : ((p.length : Int) != 32) = false := by
    rw [bne_eq_false_iff_eq]
    have : p.length = 32 := Classical.byContradiction fun h => hkeep (.inr h)
    omega
  have HNI := Lib.hid (show p ∉ namesR l from by have := HFI.out; simpa using this.symm)
  have HAL := Lib.hid (show al = insR l (p, q) from HD.out.trans (if_neg hkeep))
  have HFD := Lib.hid (show findR al p = some q ∧ ∀ y ∈ l, findR al y.1 = some y.2 from by rw [HAL.out]; exact addO_finds HUP.out HNI.out)
  have HLEN := Lib.hid (show al.length = l.length + 1 from by rw [HAL.out]; exact insO_len HNI.out)
  have hr1q : r1 = q := by rw [← HR1.out, HFD.out.1]; rfl
  have hi1t : i1 = true := by rw [← HI1.out, HFD.out.1]; rfl
  subst hr1q hi1t
  clear hkeep
  go_wp2_with fail
  clear c1 c2
  go_loopw [70] (fun i wr => ∃ k : Nat, k ≤ l.length ∧ i = .int .i64 k ∧ Below wd.heap.size wd wr) (fun i _ => l.length - (intOf i).toNat)
  case atStart => exact ⟨0, Nat.zero_le _, rfl, Below.refl _ _⟩
  case round =>
    obtain ⟨k, hk, rfl, hB⟩ := hrel
    have HB := Lib.hid hB
    have HBW := Lib.hid (HBD.out.trans (hB.mono HBD.out.size))
    by_cases h2 : k < l.length
    · have h2' : (k : Int) < (l.length : Int) := by omega
      have hx := HLX.out
      rcases hx with hx | ⟨b, o, rfl, hx⟩
      · exfalso; rw [hx] at h2; simp at h2
      obtain ⟨hx1, hx2⟩ := snp_cells hx h2
      have hc1 := cell_below HBW.out hx1
      have hc2 := cell_below HBW.out hx2
      have HY := Lib.hid (HFD.out.2 _ (List.getElem_mem h2))
      clear hx hx1 hx2 hB
      generalize l[k] = y at *
      obtain ⟨yp, yq⟩ := y
      simp only at hc1 hc2 HY
      obtain ⟨w5, hw5, hb5, hx5⟩ : ∃ w5, w5 = wr.alloc (.cells #[S yp, S yq] 24) ∧ Below wr.heap.size wr w5 ∧ w5.heap[wr.heap.size]? = some (.cells #[S yp, S yq] 24 (0, 0)) := ⟨_, rfl, (Below.refl _ _).alloc (Nat.le_refl _) _, heap_alloc_new wr _⟩
      have HB5 := Lib.hid (HB.out.trans (hb5.mono HB.out.size))
      have HX5 := Lib.hid hx5
      have d1 := heap_cell hx5 (j := 0) (v := S yp) rfl
      have CG := pget_walk (.slice da al.length dc) al yp w5 (HRD.out.below HB5.out) (by omega) HFA.out
      rw [HY.out] at CG
      simp only [rootOf, Option.isSome_some] at CG
      clear hb5 hx5
      go_upto_region 11 with fail
      rw [← hw5]
      clear hw5 hc1 hc2
      go_wp2_with fail
      refine CG.mono ?_
      rintro e w6 ⟨rfl, hb6⟩
      have e2 := heap_cell (keptD hb6 HX5.out) (j := 1) (v := S yq) rfl
      have HB6 := Lib.hid (HB5.out.trans (hb6.mono HB5.out.size))
      have hne : (yq != yq) = false := by simp
      clear CG hb6 d1
      go_wp2
      go_roundw
      case rel => exact ⟨k + 1, by omega, by go_num, HB6.out⟩
      case measure => simp [intOf]; omega
    · have h2' : ¬ (k : Int) < (l.length : Int) := by omega
      have hxr := keptD HB.out HXD.out
      have c2 := heap_cell hxr (j := 1) (v := S r1) rfl
      have hw1 : IntKind.i64.wrap ((l.length : Int) + 1) = (l.length : Int) + 1 := by rw [IntKind.wrap_i64]; omega
      have hq1 : ((al.length : Int) == (l.length : Int) + 1) = true := by rw [beq_iff_eq]; have := HLEN.out; omega
      clear hB hxr
      (have CA := awake12_walk wr; go_wp2_with fail; refine CA.mono ?_; rintro e wy ⟨rfl, hby⟩; have hBy := below_chain HBW.out hby (Below.size HBW.out); go_wp2; go_ret; exact ⟨rfl, hBy⟩)
end Go.Proofs.YtffdcnhpjgpcdaaGreatDoor
