/- GenChanges: the walk. -/
import Derived.Test.YtdkmnolljllddaaDoorLaw30E
namespace Go.Proofs.YtdkmnolljllddaaDoor
open Go.RowKit

def fullT (l : List Itm) : Bool := l.any (fun x => x.2.2.2.length == 32768)
/-- What stands where in an edited tree. -/
theorem editT_at {l : List Itm} {s : Int} (hf : FitT l) (h6 : sizeT l ≤ 60000) : ∃ kx : Nat,
    (∀ i (h : i < l.length) (h2 : i < (editT l s).length), i ≠ kx → (editT l s)[i] = l[i]) ∧
    (∀ (h : kx < l.length) (h2 : kx < (editT l s).length), ∃ p e t1 t2, l[kx] = (p, false, e, t1) ∧ (editT l s)[kx] = (p, false, e, t2) ∧ t2.length = t1.length + 1) ∧
    (kx < l.length ∨ filesT l = [] ∧ l.length ≤ kx ∨ filesT l ≠ [] ∧ l.length ≤ kx ∧ fullT l = true) := by
  rcases editT_cases (s := s) hf with ⟨h0, h⟩ | ⟨h0, h, h3⟩ | ⟨hne, k, hk, he, h, h2⟩
  · refine ⟨l.length, fun i hi h2 _ => by simp only [h], fun h => by omega, .inr (.inl ⟨h0, Nat.le_refl _⟩)⟩
  · refine ⟨l.length, fun i hi h2 _ => by simp only [h], fun h => by omega, .inr (.inr ⟨h0, Nat.le_refl _, ?_⟩)⟩
    have hm := (pickT_mem (s := s) h0).1
    have hok := hf.ok _ hm
    unfold okT at hok
    simp only [Bool.and_eq_true, decide_eq_true_eq] at hok
    unfold fullT
    rw [List.any_eq_true]
    exact ⟨_, hm, by rw [beq_iff_eq]; omega⟩
  · have hlen : (l.take k).length = k := by rw [List.length_take]; omega
    refine ⟨k, ?_, ?_, .inl hk⟩
    · intro i hi h2 hik
      simp only [h]
      rw [List.getElem_append]
      split
      · rw [List.getElem_take]
      · rename_i hge
        rw [hlen] at hge
        have : i - (l.take k).length = (i - k - 1) + 1 := by omega
        rw [List.getElem_cons, dif_neg (by omega)]
        rw [List.getElem_drop]
        congr 1; omega
    · intro h1 h2
      have hd := (pickT_mem (s := s) hne).2
      refine ⟨(pickT l s).1, (pickT l s).2.2.1, (pickT l s).2.2.2, (newT l s).2.2.2, ?_, ?_, plusT_len _ _⟩
      · rw [he, ← hd]
      · simp only [h]
        rw [List.getElem_append, dif_neg (by omega), List.getElem_cons, dif_pos (by omega), ← hd]
        rfl

set_option maxHeartbeats 2000000 in
set_option maxRecDepth 100000 in
theorem full30_walk (v : Value) (l : List Itm) (w : World) (hr : ItRow w v l) (hcnt : l.length ≤ 1100000) :
    Calls Tryd.prog 29 #[v] w fun e w' => e = .returned (.bool (fullT l)) ∧ Below w.heap.size w w' := by
  obtain ⟨a, c, rfl, hc, hm, hx⟩ := hr
  have HX := Lib.hid hx
  clear hx
  go_enter Tryd.func29, Tryd.ntmps29
  go_wp2
  go_loopw [7] (fun i wr => ∃ k : Nat, k ≤ l.length ∧ i = .int .i64 k ∧ fullT (l.take k) = false ∧ Below w.heap.size w wr) (fun i _ => l.length - (intOf i).toNat)
  case atStart => exact ⟨0, Nat.zero_le _, rfl, by simp [fullT], Below.refl _ _⟩
  case round =>
    obtain ⟨k, hk, rfl, hall, hB⟩ := hrel
    have HALL := Lib.hid hall
    clear hall
    by_cases h1 : k < l.length
    · have h1' : (k : Int) < (l.length : Int) := by omega
      have hx := HX.out
      rcases hx with hx | ⟨b, o, rfl, hx⟩
      · exfalso; rw [hx] at h1; simp at h1
      obtain ⟨hx1, hx2, hx3, hx4⟩ := it_cells hx h1
      have hc1 := cell_below hB hx1
      have hc2 := cell_below hB hx2
      have hc3 := cell_below hB hx3
      have hc4 := cell_below hB hx4
      have HST := Lib.hid (fun (h : (l[k].2.2.2.length == 32768) = false) => (show fullT (l.take (k + 1)) = false by
        unfold fullT; rw [List.take_succ_eq_append_getElem h1, List.any_append]; rw [show (l.take k).any _ = false from HALL.out]; simp only [List.any_cons, List.any_nil, h]; rfl))
      have HYES := Lib.hid (fun (h : (l[k].2.2.2.length == 32768) = true) => (show fullT l = true by
        unfold fullT; rw [List.any_eq_true]; exact ⟨_, List.getElem_mem h1, h⟩))
      have HBA := Lib.hid (show Below w.heap.size w (wr.alloc (.cells #[S l[k].1, .bool l[k].2.1, .bool l[k].2.2.1, S l[k].2.2.2] 32)) from hB.alloc hB.size _)
      clear hx hx1 hx2 hx3 hx4 hB
      generalize l[k] = y at *
      obtain ⟨p, dd, ex, q⟩ := y
      simp only at hc1 hc2 hc3 hc4
      have r3 := cell_new wr #[S p, .bool dd, .bool ex, S q] 32 3 rfl
      by_cases hq : q.length = 32768
      · have hq' : ((q.length : Int) == 32768) = true := by rw [beq_iff_eq]; omega
        have HF := Lib.hid (HYES.out (by simpa using hq))
        clear HST HYES hq
        go_wp2
        go_ret
        exact ⟨by rw [HF.out]; rfl, HBA.out⟩
      · have hq' : ((q.length : Int) == 32768) = false := by rw [beq_eq_false_iff_ne]; omega
        have HF := Lib.hid (HST.out (by simpa using hq))
        clear HST HYES hq
        go_wp2
        go_roundw
        case rel => exact ⟨k + 1, by omega, by go_num, HF.out, HBA.out⟩
        case measure => simp [intOf]; omega
    · have h1' : ¬ (k : Int) < (l.length : Int) := by omega
      have HF := Lib.hid (show fullT l = false by
        have := HALL.out
        rwa [List.take_of_length_le (by omega)] at this)
      go_wp2
      go_ret
      exact ⟨by rw [HF.out]; rfl, hB⟩

def fcnt (l : List Itm) (k : Nat) : Nat := (filesT (l.take k)).length
theorem fcnt_step {l : List Itm} {k : Nat} (h : k < l.length) : fcnt l (k + 1) = fcnt l k + if l[k].2.1 = true then 0 else 1 := by
  unfold fcnt filesT
  rw [List.take_succ_eq_append_getElem h, List.filter_append, List.length_append]
  cases hd : l[k].2.1 <;> simp [hd]
theorem fcnt_le (l : List Itm) (k : Nat) : fcnt l k ≤ k := by
  have := List.length_filter_le (fun x : Itm => !x.2.1) (l.take k)
  rw [List.length_take] at this
  unfold fcnt filesT; omega
def chgN (kx k : Nat) : Nat := if kx < k then 1 else 0

set_option maxHeartbeats 8000000 in
set_option maxRecDepth 100000 in
theorem gchanges_walk (v : Value) (l : List Itm) (s : Int) (w : World) (hM : Mx w) (hT : SpTab w) (hr : ItRow w v l) (hs : sizeT l ≤ 1000000000000) (hpl : ∀ x ∈ l, x.1.length ≤ 1100000) :
    Calls Tryd.prog 8 #[v, .int .u64 s] w fun e w' => e = .returned (.bool true) ∧ Below w.heap.size w w' := by
  have HM := Lib.hid hM
  have HT := Lib.hid hT
  have HR := Lib.hid hr
  have HPL := Lib.hid hpl
  obtain ⟨a, c, rfl, hc, hm, hx⟩ := hr
  clear hM hT hx hpl
  go_enter Tryd.func8, Tryd.ntmps8
  go_upto_region 1 with fail
  go_cut [23] from 11 (fun x w' => ∃ q, x = .bool q ∧ (q = false → FitT l ∧ sizeT l ≤ 60000) ∧ Below w.heap.size w w')
  case first =>
    by_cases h70 : 70 < l.length
    · have h70' : (70 : Int) < (l.length : Int) := by omega
      go_wp2
      go_meet
      case rel => exact ⟨true, by first | rfl | rw [decide_eq_true h70'], (fun h => by cases h), Below.refl _ _⟩
    have h70' : ¬ (70 : Int) < (l.length : Int) := by omega
    have CF := r10fit_walk _ l w HR.out (by omega) hs HPL.out
    cases hfb : fitTB l with
    | false =>
      rw [hfb] at CF
      go_wp2_with fail
      refine CF.mono ?_
      rintro e w1 ⟨rfl, hb1⟩
      go_wp2
      go_meet
      case rel => exact ⟨true, rfl, (fun h => by cases h), hb1⟩
    | true =>
      rw [hfb] at CF
      have HFT := Lib.hid (fitTB_iff.1 hfb)
      clear hfb
      have hsz := HFT.out.size
      go_wp2_with fail
      refine CF.mono ?_
      rintro e w1 ⟨rfl, hb1⟩
      have CS := r10size_walk _ l w1 (HR.out.below hb1) (by omega) (by omega)
      generalize sizeT l = sz at *
      clear CF
      by_cases h6 : sz ≤ 60000
      · have hsz' : ¬ (60000 : Int) < (sz : Int) := by omega
        go_wp2_with fail
        refine CS.mono ?_
        rintro e w2 ⟨rfl, hb2⟩
        go_wp2
        go_meet
        case rel => exact ⟨false, by first | rfl | (congr 1; rw [decide_eq_false_iff_not]; omega), (fun _ => ⟨HFT.out, h6⟩), below_chain hb1 hb2 hb1.size⟩
      · have hsz' : (60000 : Int) < (sz : Int) := by omega
        go_wp2_with fail
        refine CS.mono ?_
        rintro e w2 ⟨rfl, hb2⟩
        go_wp2
        go_meet
        case rel => exact ⟨true, by first | rfl | (congr 1; rw [decide_eq_true_iff]; omega), (fun h => by cases h), below_chain hb1 hb2 hb1.size⟩
  case rest =>
  obtain ⟨q, rfl, hq, hB⟩ := hcut
  cases q with
  | true =>
    go_wp2_with (go_at_call 18; refine (awake30_walk _ (HM.out.below hB) (HT.out.below hB)).mono ?_; rintro e w3 ⟨rfl, hb3⟩)
    go_ret
    exact ⟨rfl, below_chain hB hb3 hB.size⟩
  | false =>
  obtain ⟨hft, h6⟩ := hq rfl
  have hlen := hft.len
  have hdl : ∀ x ∈ l, x.2.2.2.length ≤ 32768 := fun x hx => by
    have := hft.ok x hx
    unfold okT at this
    simp only [Bool.and_eq_true, decide_eq_true_eq] at this
    omega
  have CP := fun W h hM => pedit_walk (.slice a l.length c) l s W h (by omega) hft.up (by omega) hM HPL.out (fun x hx => by have := hdl x hx; omega)
  have hml := editT_len (s := s) hft
  obtain ⟨kx, hE, hC, hEnd⟩ := editT_at (s := s) hft h6
  have CFU := fun W h => full30_walk (.slice a l.length c) l W h (by omega)
  have HDL := Lib.hid hdl
  clear hft h6 hs hq hdl
  generalize editT l s = m at *
  go_wp2_with fail
  refine (CP _ (HR.out.below hB) (HM.out.below hB)).mono ?_
  rintro e w1 ⟨v1, rfl, hr1, hb1⟩
  replace hB := below_chain hB hb1 hB.size
  clear CP hb1
  obtain ⟨va, vc, rfl, hvc, hvm, hvx⟩ := hr1
  have HXM := Lib.hid hvx
  have HX := Lib.hid (HR.out.below hB)
  have hne : ((m.length : Int) != (l.length : Int)) = false := by rw [bne_eq_false_iff_eq]; omega
  clear hvx
  go_wp2
  go_loopw [6, 7, 35] (fun f g i wr => ∃ k : Nat, k ≤ l.length ∧ i = .int .i64 k ∧ f = .int .i64 (fcnt l k : Nat) ∧ g = .int .i64 (chgN kx k : Nat) ∧ Below w1.heap.size w1 wr) (fun _ _ i _ => l.length - (intOf i).toNat)
  case atStart => exact ⟨0, Nat.zero_le _, rfl, rfl, by rw [show chgN kx 0 = 0 from if_neg (by omega)]; rfl, Below.refl _ _⟩
  case round =>
    obtain ⟨k, hk, rfl, rfl, rfl, hBw⟩ := hrel
    have hfc := fcnt_le l k
    by_cases h1 : k < l.length
    · have h2 : k < m.length := by omega
      have h1' : (k : Int) < (l.length : Int) := by omega
      have h2' : (k : Int) < (m.length : Int) := by omega
      obtain ⟨a', c', hv', -, -, hx⟩ := HX.out
      cases hv'
      rcases hx with hx | ⟨b, o, rfl, hx⟩
      · exfalso; rw [hx] at h1; simp at h1
      have hy := HXM.out
      rcases hy with hy | ⟨b2, o2, rfl, hy⟩
      · exfalso; rw [hy] at h2; simp at h2
      obtain ⟨hx1, hx2, hx3, hx4⟩ := it_cells hx h1
      obtain ⟨hy1, hy2, hy3, hy4⟩ := it_cells hy h2
      replace hx1 := cell_below hBw hx1
      replace hx2 := cell_below hBw hx2
      replace hx3 := cell_below hBw hx3
      replace hx4 := cell_below hBw hx4
      replace hy1 := cell_below hBw hy1
      replace hy2 := cell_below hBw hy2
      replace hy3 := cell_below hBw hy3
      replace hy4 := cell_below hBw hy4
      have HST := Lib.hid (fcnt_step h1)
      have hdl1 := HDL.out l[k] (List.getElem_mem h1)
      have HCH := Lib.hid (show chgN kx (k + 1) = chgN kx k + if kx = k then 1 else 0 by unfold chgN; split <;> split <;> split <;> omega)
      have hcl : chgN kx k ≤ 1 := by unfold chgN; split <;> omega
      obtain ⟨p, d, e, t1, p', d', e', t2, hlk, hmk, hcase⟩ : ∃ p d e t1 p' d' e' t2, l[k] = (p, d, e, t1) ∧ m[k] = (p', d', e', t2) ∧ ((kx ≠ k ∧ p' = p ∧ d' = d ∧ e' = e ∧ t2 = t1) ∨ (kx = k ∧ p' = p ∧ d' = false ∧ d = false ∧ e' = e ∧ t2.length = t1.length + 1)) := by
        by_cases hkk : kx = k
        · subst hkk
          obtain ⟨p, e, t1, t2, q1, q2, q3⟩ := hC h1 h2
          exact ⟨p, false, e, t1, p, false, e, t2, q1, q2, .inr ⟨rfl, rfl, rfl, rfl, rfl, q3⟩⟩
        · have := hE k h1 h2 (fun e => hkk e.symm)
          exact ⟨_, _, _, _, _, _, _, _, rfl, this, .inl ⟨hkk, rfl, rfl, rfl, rfl⟩⟩
      rw [hlk] at hx1 hx2 hx3 hx4 HST hdl1
      rw [hmk] at hy1 hy2 hy3 hy4
      have HB0 := Lib.hid hBw
      clear hlk hmk hx hy hE hC
      simp only at hdl1
      generalize chgN kx k = cg at *
      generalize fcnt l k = fc at *
      obtain ⟨w2, hw2, hb2, hz1, hsz2⟩ : ∃ w2, w2 = wr.alloc (.cells #[S p, .bool d, .bool e, S t1] 32) ∧ Below wr.heap.size wr w2 ∧ w2.heap[wr.heap.size]? = some (.cells #[S p, .bool d, .bool e, S t1] 32 (0, 0)) ∧ w2.heap.size = wr.heap.size + 1 :=
        ⟨_, rfl, (Below.refl _ _).alloc (Nat.le_refl _) _, heap_alloc_new _ _, by simp⟩
      go_upto_region 10 with fail
      rw [← hw2]
      clear hw2 hx1 hx2 hx3 hx4
      replace hy1 := cell_below hb2 hy1
      replace hy2 := cell_below hb2 hy2
      replace hy3 := cell_below hb2 hy3
      replace hy4 := cell_below hb2 hy4
      obtain ⟨w3, hw3, hb3, hz2⟩ : ∃ w3, w3 = w2.alloc (.cells #[S p', .bool d', .bool e', S t2] 32) ∧ Below w2.heap.size w2 w3 ∧ w3.heap[w2.heap.size]? = some (.cells #[S p', .bool d', .bool e', S t2] 32 (0, 0)) :=
        ⟨_, rfl, (Below.refl _ _).alloc (Nat.le_refl _) _, heap_alloc_new _ _⟩
      have hz1' := (hb3.block _ (heap_lt hz1)).trans hz1
      have HB3 := Lib.hid (below_chain (below_chain HB0.out hb2 HB0.out.size) hb3 (below_chain HB0.out hb2 HB0.out.size).size)
      obtain ⟨⟨r0, r1, r2, r3⟩, -, -⟩ := box4 hz1'
      rw [hsz2] at hz2
      obtain ⟨⟨s0, s1, s2, s3⟩, -, -⟩ := box4 hz2
      go_upto_region 11 with fail
      rw [← hw3]
      clear hw3 hy1 hy2 hy3 hy4 hb3 hb2 hz1 hz2 hz1' hBw
      rcases hcase with ⟨hkk, rfl, rfl, rfl, rfl⟩ | ⟨hkk, rfl, rfl, rfl, rfl, htl⟩
      · rw [if_neg hkk] at HCH
        clear hkk
        cases d' with
        | true =>
          go_wp2
          go_roundw
          case rel => exact ⟨k + 1, by omega, by go_num, by rw [HST.out]; go_num, by rw [HCH.out]; go_num, HB3.out⟩
          case measure => simp [intOf]; omega
        | false =>
          go_wp2
          go_roundw
          case rel => exact ⟨k + 1, by omega, by go_num, by rw [HST.out]; go_num, by rw [HCH.out]; go_num, HB3.out⟩
          case measure => simp [intOf]; omega
      · rw [if_pos hkk] at HCH
        have htn : (t1 == t2) = false := by rw [beq_eq_false_iff_ne]; rintro rfl; omega
        have htl' : ((t2.length : Int) != (t1.length : Int) + 1) = false := by rw [bne_eq_false_iff_eq]; omega
        have hwr : IntKind.i64.wrap ((t1.length : Int) + 1) = (t1.length : Int) + 1 := by rw [IntKind.wrap_i64]; omega
        clear hkk htl
        go_wp2
        go_roundw
        case rel => exact ⟨k + 1, by omega, by go_num, by rw [HST.out]; go_num, by rw [HCH.out]; go_num, HB3.out⟩
        case measure => simp [intOf]; omega
    · have h1' : ¬ (k : Int) < (l.length : Int) := by omega
      obtain rfl : k = l.length := by omega
      have hB2 := below_chain hB hBw hB.size
      have hfe : fcnt l l.length = (filesT l).length := by unfold fcnt; rw [List.take_of_length_le (Nat.le_refl _)]
      rw [hfe]
      clear hE hC hfe
      rcases hEnd with h | ⟨h0, h⟩ | ⟨h0, h, hfu⟩
      · have hc1 : chgN kx l.length = 1 := if_pos h
        rw [hc1]
        generalize (filesT l).length = fl at *
        go_wp2_with (go_at_call 18; refine (awake30_walk _ (HM.out.below hB2) (HT.out.below hB2)).mono ?_; rintro e w10 ⟨rfl, hb10⟩)
        go_ret
        exact ⟨rfl, below_chain hB2 hb10 hB2.size⟩
      · have hc1 : chgN kx l.length = 0 := if_neg (by omega)
        rw [hc1, h0]
        go_wp2_with (go_at_call 18; refine (awake30_walk _ (HM.out.below hB2) (HT.out.below hB2)).mono ?_; rintro e w10 ⟨rfl, hb10⟩)
        go_ret
        exact ⟨rfl, below_chain hB2 hb10 hB2.size⟩
      · have hc1 : chgN kx l.length = 0 := if_neg (by omega)
        rw [hc1]
        have hfl : (((filesT l).length : Int) == 0) = false := by rw [beq_eq_false_iff_ne]; have := List.length_pos_iff.2 h0; omega
        have CF := CFU _ (HX.out.below hBw)
        rw [hfu] at CF
        clear h0 CFU
        generalize (filesT l).length = fl at *
        go_wp2_with fail
        refine CF.mono ?_
        rintro e w9 ⟨rfl, hb9⟩
        replace hB2 := below_chain hB2 hb9 hB2.size
        clear CF
        go_wp2_with (go_at_call 18; refine (awake30_walk _ (HM.out.below hB2) (HT.out.below hB2)).mono ?_; rintro e w10 ⟨rfl, hb10⟩)
        go_ret
        exact ⟨rfl, below_chain hB2 hb10 hB2.size⟩
end Go.Proofs.YtdkmnolljllddaaDoor
