/- GcReaches: what a collection marks is what is reached. -/
import Derived.Test.YtengciicdnkgaaaGreatDoorGcBegin
import Derived.Test.YtengciicdnkgaaaGreatDoorR13
import Derived.Test.YtengciicdnkgaaaGreatDoorJGcP
import Derived.Test.YtengciicdnkgaaaGreatDoorAwake20
namespace Go.Proofs.YtengciicdnkgaaaGreatDoor
open Go.RowKit

/-- Where a collection in block b stands. -/
def CInv (o : List Snp) (L : List (List UInt8)) (b : Nat) (w0 w : World) (s : QM) : Prop :=
  GInv o (seedP L) s ∧ ∃ qa qc ma mc, w.heap[b]? = some (GCells true (.slice qa s.1.length qc) (.slice ma s.2.length mc)) ∧ RowN b w (.slice qa s.1.length qc) s.1 ∧ RowN b w (.slice ma s.2.length mc) s.2 ∧ Below w0.heap.size w0 w
theorem CInv.put {o : List Snp} {L : List (List UInt8)} {b : Nat} {w0 w : World} {s : QM} {qa ma pa na : Option Addr} {qn qc mn mc pn pc nn nc : Nat} (hI : GInv o (seedP L) s) (hg : w.heap[b]? = some (GCells true (.slice qa qn qc) (.slice ma mn mc))) (hq : StrRow w (.slice pa pn pc) s.1) (hm : StrRow w (.slice na nn nc) s.2) (hB : Below w0.heap.size w0 w) (hb : w0.heap.size ≤ b) :
    CInv o L b w0 (((w.setCell ⟨b, 0, none⟩ (.bool true)).setCell ⟨b, 1, none⟩ (.slice pa pn pc)).setCell ⟨b, 2, none⟩ (.slice na nn nc)) s := by
  have h1 := (((RowN.of_boxG hq hg).set (o := 0) (u := .bool true)).set (o := 1) (u := .slice pa pn pc)).set (o := 2) (u := .slice na nn nc)
  have h2 := (((RowN.of_boxG hm hg).set (o := 0) (u := .bool true)).set (o := 1) (u := .slice pa pn pc)).set (o := 2) (u := .slice na nn nc)
  have h3 := heap_set_cell (o := 2) (heap_set_cell (o := 1) (heap_set_cell (o := 0) hg (.bool true)) (.slice pa pn pc)) (.slice na nn nc)
  obtain ⟨x1, x2, e1, _⟩ := hq
  obtain ⟨y1, y2, e2, _⟩ := hm
  cases e1
  cases e2
  exact ⟨hI, _, _, _, _, by simpa using h3, h1, h2, below_setC (below_setC (below_setC hB hb 0 _) hb 1 _) hb 2 _⟩
theorem CInv.cells {o : List Snp} {L : List (List UInt8)} {b : Nat} {w0 w w' : World} {s : QM} (h : CInv o L b w0 w s) (hB : Below w.heap.size w w') : CInv o L b w0 w' s := by
  obtain ⟨h1, qa, qc, ma, mc, h2, h3, h4, h5⟩ := h
  exact ⟨h1, qa, qc, ma, mc, keptG hB h2, h3.below hB, h4.below hB, h5.trans (hB.mono h5.size)⟩

set_option maxHeartbeats 8000000 in
set_option maxRecDepth 100000 in
theorem reaches20_walk (ov rv mv : Value) (o : List Snp) (roots more : List (List UInt8)) (n : Nat) (w : World) (ho : SnpRow w ov o) (hr : StrRow w rv roots) (hm : StrRow w mv more) (hT : ErrT w) (hn : n ≤ 255) (hob : o.length ≤ 140737488355328) (hor : ∀ x ∈ o, x.2.length ≤ 140737488355328) :
    Calls Tryz.prog 4 #[ov, rv, mv, .int .u8 n] w fun e w' => e = .returned (.bool true) ∧ Below w.heap.size w w' := by
  have HO := Lib.hid ho
  have HR := Lib.hid hr
  have HM := Lib.hid hm
  have HT := Lib.hid hT
  have C0 := small20_walk ov o w ho hob hor
  obtain ⟨ra, rc, rfl, hrc, hrm, hrx⟩ := hr
  obtain ⟨ma, mc, rfl, hmc, hmm, hmx⟩ := hm
  obtain ⟨i0, hi, hz0, hz1, hz2⟩ := info_parts infoStr
  have HRX := Lib.hid hrx
  have HMX := Lib.hid hmx
  clear ho hT hor hrx hmx
  go_enter Tryz.func4, Tryz.ntmps4
  go_upto_region 1 with fail
  go_cut [26] from 14 (fun t w' => ∃ w1 q, w1 = w' ∧ t = .bool q ∧ (q = false → SmallO o ∧ roots.length ≤ 30 ∧ more.length ≤ 30) ∧ Below w.heap.size w w1)
  case first =>
    go_wp2_with fail
    refine C0.mono ?_
    rintro e w2 ⟨b0, rfl, hsm, hb2⟩
    have HSM := Lib.hid hsm
    clear C0 hsm
    cases b0 with
    | false =>
      go_wp2
      go_meet
      case rel => exact ⟨_, true, rfl, rfl, (fun h => by cases h), hb2⟩
    | true =>
      by_cases g1 : 30 < roots.length
      · have g1' : (30 : Int) < (roots.length : Int) := by omega
        clear g1
        go_wp2
        go_meet
        case rel => exact ⟨_, true, rfl, rfl, (fun h => by cases h), hb2⟩
      · have g1' : ¬ (30 : Int) < (roots.length : Int) := by omega
        by_cases g2 : 30 < more.length
        · have g2' : (30 : Int) < (more.length : Int) := by omega
          clear g1 g2
          go_wp2
          go_meet
          case rel => exact ⟨_, true, rfl, rfl, (fun h => by cases h), hb2⟩
        · have g2' : ¬ (30 : Int) < (more.length : Int) := by omega
          have HF := Lib.hid (show SmallO o ∧ roots.length ≤ 30 ∧ more.length ≤ 30 from ⟨HSM.out rfl, by omega, by omega⟩)
          clear g1 g2
          go_wp2
          go_meet
          case rel => exact ⟨_, false, rfl, by rw [decide_eq_false (p := (30 : Int) < (roots.length : Int)) (by omega), decide_eq_false (p := (30 : Int) < (more.length : Int)) (by omega)]; rfl, fun _ => HF.out, hb2⟩
  case rest =>
    obtain ⟨w1, b0, rfl, rfl, hsm, hB1⟩ := hcut
    cases b0 with
    | true => (have CA := awake20_walk w1; go_wp2_with fail; refine CA.mono ?_; rintro e wy ⟨rfl, hby⟩; have hBy := below_chain hB1 hby (Below.size hB1); go_wp2; go_ret; exact ⟨rfl, hBy⟩)
    | false =>
    have HSM := Lib.hid (hsm rfl)
    clear hsm
    obtain ⟨_, hrl, hml⟩ := HSM.out
    have CB := gbegin_walk (.slice ra roots.length rc) roots w1 (HR.out.below hB1) (by omega)
    go_wp2_with fail
    refine CB.mono ?_
    rintro e w2 ⟨qv, mv, rfl, hq2, hm2, hb2⟩
    have hB2 := below_chain hB1 hb2 hB1.size
    obtain ⟨qa, qc, rfl, -⟩ := id hq2
    obtain ⟨na, nc, rfl, -⟩ := id hm2
    obtain ⟨s0, hs0⟩ : ∃ s0, s0 = setOf roots := ⟨_, rfl⟩
    rw [← hs0] at hq2 hm2 ⊢
    obtain ⟨w3, hw3, HI3⟩ : ∃ w3, w3 = w2.alloc (GCells true (.slice qa s0.length qc) (.slice na s0.length nc)) ∧ Hid (CInv o roots w2.heap.size w w3 (s0, s0)) :=
      ⟨_, rfl, by
        have hg := heap_alloc_new w2 (GCells true (.slice qa s0.length qc) (.slice na s0.length nc))
        have hbb : Below w2.heap.size w2 (w2.alloc (GCells true (.slice qa s0.length qc) (.slice na s0.length nc))) := (Below.refl _ _).alloc (Nat.le_refl _) _
        exact ⟨by rw [hs0]; exact GInv.start o roots, qa, qc, na, nc, hg, RowN.of_boxG (hq2.below hbb) hg, RowN.of_boxG (hm2.below hbb) hg, hB2.alloc hB2.size _⟩⟩
    have HBS := Lib.hid hB2.size
    clear CB hq2 hm2 hb2 hB2 hs0
    go_upto_region 4 with fail
    rw [← hw3]
    clear hw3
    have HOL := Lib.hid (show o.length ≤ 1100000 by have := HSM.out.1.len; omega)
    have HOU := Lib.hid (fit5_upP HSM.out.1.fit)
    have HRAW := Lib.hid (show ∀ x ∈ o, x.2.length ≤ 1000000 from fun x hx => by have := HSM.out.1.raw x hx; omega)
    have HFEW := Lib.hid (fun (k : Nat) (s : QM) (h : GInv o (seedP (roots ++ more.take k)) s) => show s.1.length ≤ 700 ∧ s.2.length ≤ 700 by
      have h1 := h.few
      have h2 := h.le
      have h3 := HSM.out.1.tot
      have h4 : (more.take k).length ≤ 30 := by rw [List.length_take]; omega
      rw [List.length_append] at h1
      omega)
    obtain ⟨B, hB⟩ : ∃ B, w2.heap.size = B := ⟨_, rfl⟩
    rw [hB] at HI3 HBS ⊢
    clear hB
    have hcast : ((n % 4 : Nat) : Int) = (n : Int) % 4 := by omega
    have hcast1 : ((n % 4 + 1 : Nat) : Int) = (n : Int) % 4 + 1 := by omega
    have hwr : IntKind.i64.wrap ((n : Int) % 4 + 1) = (n : Int) % 4 + 1 := by rw [IntKind.wrap_i64]; omega
    have hr4 : n % 4 ≤ 3 := by omega
    go_wp2
    go_loopw [32] (fun i wr => ∃ j : Nat, j ≤ more.length ∧ i = .int .i64 j ∧ ∃ s : QM, CInv o (roots ++ more.take j) B w wr s) (fun i _ => more.length - (intOf i).toNat)
    case atStart => exact ⟨0, Nat.zero_le _, rfl, _, by simpa using HI3.out⟩
    case round =>
      obtain ⟨j, hj, rfl, s, hci⟩ := hrel
      by_cases h1 : j < more.length
      · have h1' : (j : Int) < (more.length : Int) := by omega
        obtain ⟨hgi, qa, qc, na, nc, hbox, hq, hm, hbw⟩ := hci
        obtain ⟨hf1, hf2⟩ := HFEW.out _ _ hgi
        obtain ⟨y0, y1, y2⟩ := gcells hbox
        have hmx := HMX.out
        rcases hmx with hmx | ⟨b, o', rfl, hmx⟩
        · exfalso; rw [hmx] at h1; simp at h1
        have hc1 := cell_below hbw (str_cell hmx h1)
        have HTK := Lib.hid (List.take_succ_eq_append_getElem h1)
        clear hmx
        generalize more[j] = k at *
        have CS := step_walk true (.slice qa s.1.length qc) (.slice na s.2.length nc) ov s.1 s.2 o (n % 4) wr hq.row hm.row (HT.out.below hbw) (HO.out.below hbw) HOL.out HOU.out HRAW.out (by omega) (by omega) (by omega) hgi.up
        have HGI := Lib.hid (hgi.steps (n % 4))
        have HBX := Lib.hid hbox
        have HBW := Lib.hid hbw
        rw [hcast] at CS
        obtain ⟨t, ht⟩ : ∃ t, stepS o (n % 4) s = t := ⟨_, rfl⟩
        rw [Prod.eta, ht] at CS
        rw [ht] at HGI
        clear hq hm hgi hbox hbw ht hcast hcast1
        go_wp2_with fail
        refine CS.mono ?_
        rintro e w4 ⟨qv4, mv4, rfl, hq4, hm4, hb4⟩
        obtain ⟨ft1, ft2⟩ := HFEW.out _ _ HGI.out
        have CN := gnoteL_walk true qv4 mv4 t.1 t.2 k w4 hq4 hm4 (by omega) (by omega) HGI.out.up
        obtain ⟨qa4, qc4, rfl, -⟩ := hq4
        obtain ⟨na4, nc4, rfl, -⟩ := hm4
        have HB4 := Lib.hid hb4
        clear CS hb4 y0 y1 y2 hc1
        go_wp2_with fail
        refine CN.mono ?_
        rintro e w5 ⟨qv5, mv5, rfl, hq5, hm5, hb5⟩
        have hbx := keptG hb5 (keptG HB4.out HBX.out)
        have hBw := HBW.out.trans ((HB4.out.trans (hb5.mono HB4.out.size)).mono HBW.out.size)
        obtain ⟨qa5, qc5, rfl, -⟩ := id hq5
        obtain ⟨na5, nc5, rfl, -⟩ := id hm5
        have HP := Lib.hid (CInv.put (s := (noteQ true t.1 t.2 k, noteM true t.2 k)) HGI.out.note hbx hq5 hm5 hBw HBS.out)
        obtain ⟨r0, r1, r2⟩ := gcells hbx
        have s0 := is_some r0
        have s1 := is_some r1
        have s2 := is_some r2
        have f0 := heap_free hbx 0
        have f1 := heap_free hbx 1
        have f2 := heap_free hbx 2
        clear CN hq5 hm5 hb5 hbx hBw
        go_wp2
        go_roundw
        case rel => exact ⟨j + 1, by omega, by go_num, _, by rw [HTK.out, ← List.append_assoc]; exact HP.out⟩
        case measure => simp [intOf]; omega
      · have h1' : ¬ (j : Int) < (more.length : Int) := by omega
        obtain rfl : j = more.length := by omega
        have HI := Lib.hid hci
        rw [List.take_of_length_le (Nat.le_refl _)] at HI
        have HFW := Lib.hid (fun (s : QM) (h : GInv o (seedP (roots ++ more)) s) => show s.1.length ≤ 700 ∧ s.2.length ≤ 700 from HFEW.out more.length s (by rw [List.take_of_length_le (Nat.le_refl _)]; exact h))
        clear hci HI3 HFEW
        go_wp2
        go_loopw [45] (fun i wr => ∃ j : Nat, j ≤ 3000 ∧ i = .int .i64 j ∧ ∃ s : QM, CInv o (roots ++ more) B w wr s ∧ j + s.1.length ≤ s.2.length) (fun i _ => 3000 - (intOf i).toNat)
        case atStart => exact ⟨0, Nat.zero_le _, rfl, s, HI.out, by have := HI.out.1.le; omega⟩
        case round =>
          clear HI
          obtain ⟨j, hj, rfl, s, hci, hjl⟩ := hrel
          obtain ⟨hgi, qa, qc, na, nc, hbox, hq, hm, hbw⟩ := hci
          obtain ⟨hf1, hf2⟩ := HFW.out _ hgi
          have h1 : (j : Int) < 3000 := by omega
          obtain ⟨y0, y1, y2⟩ := gcells hbox
          have CD := doneG_walk true (.slice qa s.1.length qc) (.slice na s.2.length nc) s.1 wr hq.row ⟨_, _, _, rfl⟩
          have HGI := Lib.hid hgi
          have HBX := Lib.hid hbox
          have HBW := Lib.hid hbw
          have HQ := Lib.hid hq
          have HN := Lib.hid hm
          clear hgi hbox hbw hq hm
          obtain ⟨d, hd⟩ : ∃ d, doneB true s.1 = d := ⟨_, rfl⟩
          rw [hd] at CD
          cases d with
          | false =>
            have hne : 1 ≤ s.1.length := by
              cases hs : s.1 with
              | nil => rw [hs] at hd; simp [doneB] at hd
              | cons => simp
            clear hd
            go_wp2_with fail
            refine CD.mono ?_
            rintro e w4 ⟨rfl, hb4⟩
            have hbx := keptG hb4 HBX.out
            have hBw := HBW.out.trans (hb4.mono HBW.out.size)
            obtain ⟨z0, z1, z2⟩ := gcells hbx
            have CS := step_walk true (.slice qa s.1.length qc) (.slice na s.2.length nc) ov s.1 s.2 o (n % 4 + 1) w4 (HQ.out.below hb4).row (HN.out.below hb4).row (HT.out.below hBw) (HO.out.below hBw) HOL.out HOU.out HRAW.out (by omega) (by omega) (by omega) HGI.out.up
            have HG2 := Lib.hid (HGI.out.steps (n % 4 + 1))
            have HCN := Lib.hid (steps_cnt (n % 4 + 1) HGI.out)
            rw [hcast1] at CS
            obtain ⟨t, ht⟩ : ∃ t, stepS o (n % 4 + 1) s = t := ⟨_, rfl⟩
            rw [Prod.eta, ht] at CS
            rw [ht] at HG2 HCN
            have HB4 := Lib.hid hb4
            have HBX4 := Lib.hid hbx
            have HBW4 := Lib.hid hBw
            clear CD hb4 hbx hBw ht y0 y1 y2
            go_wp2_with fail
            refine CS.mono ?_
            rintro e w5 ⟨qv5, mv5, rfl, hq5, hm5, hb5⟩
            have hbx := keptG hb5 HBX4.out
            have hBw := HBW4.out.trans (hb5.mono HBW4.out.size)
            obtain ⟨qa5, qc5, rfl, -⟩ := id hq5
            obtain ⟨na5, nc5, rfl, -⟩ := id hm5
            have HP := Lib.hid (CInv.put (s := t) HG2.out hbx hq5 hm5 hBw HBS.out)
            have HLE := Lib.hid (show j + 1 + t.1.length ≤ t.2.length by have := HCN.out; omega)
            obtain ⟨r0, r1, r2⟩ := gcells hbx
            have s0 := is_some r0
            have s1 := is_some r1
            have s2 := is_some r2
            have f0 := heap_free hbx 0
            have f1 := heap_free hbx 1
            have f2 := heap_free hbx 2
            clear CS hq5 hm5 hb5 hbx hBw z0 z1 z2
            go_wp2
            go_roundw
            case rel => exact ⟨j + 1, by omega, by go_num, t, HP.out, HLE.out⟩
            case measure => simp [intOf]; omega
          | true =>
            have hnil : s.1 = [] := by
              unfold doneB at hd
              rw [Bool.and_eq_true, List.isEmpty_iff] at hd
              exact hd.2
            have HDN := Lib.hid (show ∀ x, x ∈ s.2 ↔ Reached o (seedP (roots ++ more)) x from by
              have h7 := HGI.out
              obtain ⟨s1, s2⟩ := s
              simp only at hnil
              subst hnil
              exact h7.done)
            have hd2 := Lib.hid hd
            clear hd hnil
            go_wp2_with fail
            refine CD.mono ?_
            rintro e w4 ⟨rfl, hb4⟩
            have hbx := keptG hb4 HBX.out
            have hBw := HBW.out.trans (hb4.mono HBW.out.size)
            have HQ4 := Lib.hid (HQ.out.below hb4)
            have HN4 := Lib.hid (HN.out.below hb4)
            have HBX4 := Lib.hid hbx
            have HBW4 := Lib.hid hBw
            clear CD hb4 hbx hBw y0 y1 y2
            go_upto_region 14 with fail
            go_cut [12, 13] from 57 (fun v okv wc => ∃ w9 R okb, w9 = wc ∧ okv = .bool okb ∧ Hid (R = s.2) ∧ StrRow w9 v R ∧ Below w4.heap.size w4 w9)
            case first =>
              have hemp := own_empty w4 9
              have hB4 : Below w4.heap.size w4 (w4.alloc (.cells #[] 9)) := (Below.refl _ _).alloc (Nat.le_refl _) _
              go_wp2_with (at_builtin; refine wpList_append_row rfl _ _ 22 rfl w4.heap.size 9 i0 (.string ⟨#[]⟩) Tryz.underlying22 hi hz0 hz1 hz2 rfl _ _ _ rfl hemp (.slice ra roots.length rc) roots rfl ((HR.out.below HBW4.out).below hB4) (by omega) (by simp) ?_)
              intro v5 w5 hown5 hb5
              have hB5 := hB4.trans hb5
              go_wp2_with (at_builtin; refine wpList_append_row rfl _ _ 22 rfl w4.heap.size 9 i0 (.string ⟨#[]⟩) Tryz.underlying22 hi hz0 hz1 hz2 rfl _ _ _ rfl hown5 (.slice ma more.length mc) more rfl ((HM.out.below HBW4.out).below hB5) (by omega) hB5.size ?_)
              intro v6 w6 hown6 hb6
              have hB6 := hB5.trans hb6
              have hrow6 : StrRow w6 v6 (roots ++ more) := StrRow.of_owns (by simpa using hown6)
              have hBW6 := HBW4.out.trans (hB6.mono HBW4.out.size)
              have CR := rreach_walk ov v6 o (roots ++ more) w6 (HO.out.below hBW6) hrow6 HOL.out HRAW.out (by have := HSM.out.1.tot; rw [List.length_append]; omega)
              clear hemp hB4 hown5 hb5 hB5 hown6 hb6 hrow6 hBW6
              go_wp2_with fail
              refine CR.mono ?_
              rintro e w7 ⟨v7, R, rfl, hr7, hu7, hm7, hb7⟩
              have HR7 := Lib.hid hr7
              have HRS := Lib.hid (show R = s.2 from up_ext hu7 HGI.out.up (fun x => by rw [hm7, HDN.out]))
              have HB7 := Lib.hid (hB6.trans (hb7.mono hB6.size))
              generalize R.all (okO o) = okb at *
              clear hr7 hu7 hm7 hb7 CR hB6
              go_wp2
              go_meet
              case rel => exact ⟨_, R, okb, rfl, rfl, HRS, HR7.out, HB7.out⟩
            case rest =>
              obtain ⟨w9, R, okb, rfl, rfl, HRS, hrow, hb9⟩ := hcut
              have hbx := keptG hb9 HBX4.out
              obtain ⟨z0, z1, z2⟩ := gcells hbx
              obtain ⟨ta, tc, rfl, -⟩ := id hrow
              have HTR := Lib.hid hrow
              have HB9 := Lib.hid (HBW4.out.trans (hb9.mono HBW4.out.size))
              have HQ9 := Lib.hid (HQ4.out.below hb9)
              have HN9 := Lib.hid (HN4.out.below hb9)
              have CD := doneG_walk true (.slice qa s.1.length qc) (.slice na s.2.length nc) s.1 w9 HQ9.out.row ⟨_, _, _, rfl⟩
              rw [hd2.out] at CD
              clear hrow hb9
              go_wp2_with fail
              refine CD.mono ?_
              rintro e wa ⟨rfl, hba⟩
              have hbxa := keptG hba hbx
              obtain ⟨x0, x1, x2⟩ := gcells hbxa
              have CE := rsame5_walk (.slice na s.2.length nc) (.slice ta R.length tc) s.2 R wa (HN9.out.below hba).row (HTR.out.below hba) (by omega)
              rw [decide_eq_true HRS.out.symm] at CE
              have HBA := Lib.hid (HB9.out.trans (hba.mono HB9.out.size))
              clear CD z0 z1 z2 hbx hba
              go_wp2_with fail
              refine CE.mono ?_
              rintro e wb ⟨rfl, hbb⟩
              have HBB := Lib.hid (HBA.out.trans (hbb.mono HBA.out.size))
              have CA := awake20_walk wb
              clear CE hbb x0 x1 x2 hbxa
              go_wp2_with fail
              refine CA.mono ?_
              rintro e wy ⟨rfl, hby⟩
              have hBy := HBB.out.trans (hby.mono HBB.out.size)
              go_wp2
              go_ret
              exact ⟨rfl, hBy⟩
end Go.Proofs.YtengciicdnkgaaaGreatDoor
