/- The reference's Put. -/
import Derived.Test.YtmlahfmcccpgjaaR18
import Derived.Sort.Walk0
namespace Go.Proofs.Ytmlahfmcccpgjaa
open Go.RowKit

set_option maxHeartbeats 2000000 in
set_option maxRecDepth 100000 in
theorem r18put_walk (v : Value) (l : List Snp) (x : Snp) (w : World) (hr : SnpRow w v l) (hcnt : l.length ≤ 1000000) (hx1 : x.1.length ≤ 1000000) (hx2 : x.2.length ≤ 1000000) :
    Calls Try.prog 24 #[v, SnpV x] w fun e w' => ∃ v', e = .returned (.tuple #[v', .int .i64 (putE l x).2]) ∧ SnpRow w' v' (putE l x).1 ∧ Below w.heap.size w w' := by
  obtain ⟨p, q⟩ := x
  have hr1 := hr.below ((Below.refl w.heap.size w).alloc (Nat.le_refl _) (.cells #[S p, S q] 31))
  have C := r18find_walk v l p _ hr1 hcnt
  have HD := Lib.hid (show putE l (p, q) = if nameB p = false then (l, 7) else if q.length ≠ 32 then (l, 11) else if (findR l p).isSome then (l, 6) else if 20 ≤ l.length then (l, 9) else (insR l (p, q), 0) from rfl)
  generalize putE l (p, q) = de at *
  generalize findR l p = fo at *
  simp only at hx1 hx2
  have HR1 := Lib.hid hr1
  obtain ⟨a, c, rfl, hc, hm, hx⟩ := hr
  have HX := Lib.hid hx
  clear hx hr1
  obtain ⟨i0, hi, hz0, hz1, hz2⟩ := info_parts infoSnp
  have hBx : Below w.heap.size w (w.alloc (.cells #[S p, S q] 31)) := (Below.refl _ _).alloc (Nat.le_refl _) _
  have hcx1 : (w.alloc (.cells #[S p, S q] 31)).cell? ⟨w.heap.size, 0, none⟩ = some (S p) := by rw [World.cell?_alloc_at _ _ _ _ rfl]; rfl
  have hcx2 : (w.alloc (.cells #[S p, S q] 31)).cell? ⟨w.heap.size, 1, none⟩ = some (S q) := by rw [World.cell?_alloc_at _ _ _ _ rfl]; rfl
  go_enter Try.func24, Try.ntmps24
  go_wp2_with fail
  refine C.mono ?_
  rintro e w1 ⟨rfl, hb⟩
  have hp1 := cell_below hb hcx1
  have hp2 := cell_below hb hcx2
  have hB1 : Below w.heap.size w w1 := below_chain hBx hb (by simp)
  have hs1 : w.heap.size + 1 ≤ w1.heap.size := by have := hb.size; simpa using this
  have hr1 := HR1.out.below hb
  clear HR1 C hcx1 hcx2 hBx hb
  obtain ⟨nb, hnb⟩ : ∃ nb, nameB p = nb := ⟨_, rfl⟩
  have HNB := Lib.hid hnb
  cases nb with
  | false =>
    have HD1 := Lib.hid (HD.out.trans (if_pos hnb))
    clear hnb
    go_wp2_with fail
    refine (rname_walk p w1 hx1).mono ?_
    rintro e w2 ⟨rfl, rfl⟩
    rw [HNB.out]
    go_wp2
    go_ret2
    exact ⟨_, by rw [HD1.out]; rfl, by rw [HD1.out]; exact hr1, hB1⟩
  | true =>
    have HD1 := Lib.hid (HD.out.trans (if_neg (by rw [hnb]; simp)))
    clear hnb HD
    go_wp2_with fail
    refine (rname_walk p w1 hx1).mono ?_
    rintro e w2 ⟨rfl, rfl⟩
    rw [HNB.out]
    clear HNB
    by_cases hq : q.length ≠ 32
    · have HD2 := Lib.hid (HD1.out.trans (if_pos hq))
      have hq' : ((q.length : Int) != 32) = true := by rw [bne_iff_ne]; omega
      clear hq
      go_wp2
      go_ret2
      exact ⟨_, by rw [HD2.out]; rfl, by rw [HD2.out]; exact hr1, hB1⟩
    have HD2 := Lib.hid (HD1.out.trans (if_neg hq))
    have hq' : ((q.length : Int) != 32) = false := by rw [bne_eq_false_iff_eq]; omega
    clear hq HD1
    cases fo with
    | some r =>
      have HD3 := Lib.hid (HD2.out.trans (if_pos (by simp)))
      simp only [Option.isSome_some]
      go_wp2
      go_ret2
      exact ⟨_, by rw [HD3.out]; rfl, by rw [HD3.out]; exact hr1, hB1⟩
    | none =>
    have HD3 := Lib.hid (HD2.out.trans (if_neg (by simp)))
    clear HD2
    simp only [Option.isSome_none]
    by_cases h20 : 20 ≤ l.length
    · have HD4 := Lib.hid (HD3.out.trans (if_pos h20))
      have h20' : (20 : Int) ≤ (l.length : Int) := by omega
      go_wp2
      go_ret2
      exact ⟨_, by rw [HD4.out]; rfl, by rw [HD4.out]; exact hr1, hB1⟩
    have HD4 := Lib.hid (HD3.out.trans (if_neg h20))
    have h20' : ¬ (20 : Int) ≤ (l.length : Int) := by omega
    clear HD3
    go_wp2
    go_loopw [8, 9, 10] (fun v dn i wr => ∃ (k : Nat) (out : List Snp), k ≤ l.length ∧ i = .int .i64 k ∧ Below (w.heap.size + 1) w1 wr ∧ wr.ownsRow (w.heap.size + 1) 31 2 v out.length (out.flatMap snpC) ∧ out.length ≤ k + 1 ∧
        ((dn = .bool false ∧ out = l.take k ∧ ∀ y ∈ l.take k, ¬ p < y.1) ∨ (dn = .bool true ∧ insR l (p, q) = out ++ l.drop k))) (fun _ _ i _ => l.length - (intOf i).toNat)
    case atStart => exact ⟨0, [], Nat.zero_le _, rfl, Below.refl _ _, World.ownsRow_nil _ _ _ _, by simp, .inl ⟨rfl, rfl, by simp⟩⟩
    case round =>
      obtain ⟨k, out, hk, rfl, hBR, hown, hol, hst⟩ := hrel
      have hsz := hBR.size
      by_cases h1 : k < l.length
      · have hx := HX.out
        rcases hx with hx | ⟨b, o, rfl, hx⟩
        · exfalso; rw [hx] at h1; simp at h1
        obtain ⟨hy1, hy2⟩ := snp_cells hx h1
        have hBW : Below w.heap.size w wr := hB1.trans (hBR.mono (by omega))
        have hc1 := cell_below hBW hy1
        have hc2 := cell_below hBW hy2
        have hpp1 := (hBR.cell (p := ⟨w.heap.size, 0, none⟩) (by simp)).trans hp1
        have hpp2 := (hBR.cell (p := ⟨w.heap.size, 1, none⟩) (by simp)).trans hp2
        have HTK := Lib.hid (List.take_succ_eq_append_getElem h1)
        have HDK := Lib.hid (List.drop_eq_getElem_cons h1)
        have HW := Lib.hid (fun ha hn => ins_wait (x := (p, q)) h1 ha hn)
        have HN := Lib.hid (fun ha hn => ins_now (x := (p, q)) h1 ha hn)
        have HY1 := Lib.hid hy1
        have HY2 := Lib.hid hy2
        clear hx hy1 hy2
        generalize l[k] = y at *
        obtain ⟨yp, yq⟩ := y
        have h1' : (k : Int) < (l.length : Int) := by omega
        rcases hst with ⟨rfl, hout, hall⟩ | ⟨rfl, hins⟩
        · have hol' : out.length ≤ k := by rw [hout, List.length_take]; omega
          have HO := Lib.hid hout
          have HALL := Lib.hid hall
          clear hout hall
          rcases Classical.em (p < yp) with hlt | hge
          · have hbl : Op.bytesLess yp p = false := by rw [bytesLess_eq]; simpa using List.le_of_lt hlt
            have hpe : (yp == p) = false := by rw [beq_eq_false_iff_ne]; rintro rfl; exact List.lt_irrefl _ hlt
            have HN' := Lib.hid (HN.out HALL.out hlt)
            clear hlt
            go_wp2
            go_quiet (fail)
            go_wp2_with (at_builtin; refine wpList_append_own _ rfl _ _ 24 rfl (w.heap.size + 1) 31 i0 (.agg #[.string ⟨#[]⟩, .string ⟨#[]⟩]) 2 32 Try.underlying24 hi hz0 hz1 hz2 rfl (by decide) _ _ _ rfl ((show World.ownsRow (wr.drewN _) _ _ _ _ _ _ from hown).alloc _) ⟨wr.heap.size, 0, none⟩ 1 1 [S p, S q] rfl rfl (new_cells _ _ _ _) (by intro u hu; simp at hu; rcases hu with rfl | rfl <;> rfl) (by unfold maxLen; omega) (by omega) (by simp; omega) ?_)
            intro v' w2 hown' hgrow _
            have hB2 : Below (w.heap.size + 1) w1 w2 := ((belowN hBR _).alloc (by simpa using Nat.le_trans hs1 hsz) _).grown hgrow (by simp; omega) (fun j hj => (hown.lt j hj).1)
            have hsz2 := hB2.size
            have hBW2 : Below w.heap.size w w2 := hB1.trans (hB2.mono (by omega))
            have hc1 := cell_below hBW2 HY1.out
            have hc2 := cell_below hBW2 HY2.out
            clear hgrow hown hBR hc1 hc2 hpp1 hpp2
            have hc1 := cell_below hBW2 HY1.out
            have hc2 := cell_below hBW2 HY2.out
            go_wp2_with (at_builtin; refine wpList_append_own _ rfl _ _ 24 rfl (w.heap.size + 1) 31 i0 (.agg #[.string ⟨#[]⟩, .string ⟨#[]⟩]) 2 32 Try.underlying24 hi hz0 hz1 hz2 rfl (by decide) _ _ _ rfl (hown'.alloc _) ⟨w2.heap.size, 0, none⟩ 1 1 [S yp, S yq] rfl rfl (new_cells _ _ _ _) (by intro u hu; simp at hu; rcases hu with rfl | rfl <;> rfl) (by unfold maxLen; omega) (by omega) (by simp; omega) ?_)
            intro v3 w3 hown3 hgrow _
            have hB3 : Below (w.heap.size + 1) w1 w3 := (hB2.alloc (by omega) _).grown hgrow (by simp; omega) (fun j hj => (hown'.lt j hj).1)
            clear hgrow hown' hc1 hc2
            go_wp2
            go_roundw
            case rel =>
              refine ⟨k + 1, out ++ [(p, q)] ++ [(yp, yq)], by omega, by go_num, hB3, by simpa using hown3, by simp; omega, .inr ⟨rfl, ?_⟩⟩
              rw [HN'.out, HDK.out, HO.out]
              simp
            case measure => simp [intOf]; omega
          · have HW' := Lib.hid (HW.out HALL.out hge)
            have hcase : (Op.bytesLess yp p = true ∧ (yp == p) = false) ∨ (Op.bytesLess yp p = false ∧ (yp == p) = true) := by
              rw [bytesLess_eq]
              rcases lt_or_eq_or_gt yp p with h | h | h
              · exact .inl ⟨by simpa using h, by rw [beq_eq_false_iff_ne]; rintro rfl; exact List.lt_irrefl _ h⟩
              · exact .inr ⟨by rw [h]; simp, by rw [beq_iff_eq]; exact h⟩
              · exact absurd h hge
            clear hge
            rcases hcase with ⟨hbl, hpe⟩ | ⟨hbl, hpe⟩
            all_goals
              go_wp2
              go_quiet (fail)
              go_wp2_with (at_builtin; refine wpList_append_own _ rfl _ _ 24 rfl (w.heap.size + 1) 31 i0 (.agg #[.string ⟨#[]⟩, .string ⟨#[]⟩]) 2 32 Try.underlying24 hi hz0 hz1 hz2 rfl (by decide) _ _ _ rfl ((show World.ownsRow (wr.drewN _) _ _ _ _ _ _ from hown).alloc _) ⟨wr.heap.size, 0, none⟩ 1 1 [S yp, S yq] rfl rfl (new_cells _ _ _ _) (by intro u hu; simp at hu; rcases hu with rfl | rfl <;> rfl) (by unfold maxLen; omega) (by omega) (by simp; omega) ?_)
              intro v' w2 hown' hgrow _
              have hB2 : Below (w.heap.size + 1) w1 w2 := ((belowN hBR _).alloc (by simpa using Nat.le_trans hs1 hsz) _).grown hgrow (by simp; omega) (fun j hj => (hown.lt j hj).1)
              clear hgrow hown hBR hc1 hc2 hpp1 hpp2
              go_wp2
              go_roundw
              case rel =>
                refine ⟨k + 1, out ++ [(yp, yq)], by omega, by go_num, hB2, by simpa using hown', by simp; omega, .inl ⟨rfl, ?_, HW'.out⟩⟩
                rw [HTK.out, HO.out]
              case measure => simp [intOf]; omega
        · have HI := Lib.hid hins
          clear hins
          go_wp2
          go_quiet (fail)
          go_wp2_with (at_builtin; refine wpList_append_own _ rfl _ _ 24 rfl (w.heap.size + 1) 31 i0 (.agg #[.string ⟨#[]⟩, .string ⟨#[]⟩]) 2 32 Try.underlying24 hi hz0 hz1 hz2 rfl (by decide) _ _ _ rfl ((show World.ownsRow (wr.drewN _) _ _ _ _ _ _ from hown).alloc _) ⟨wr.heap.size, 0, none⟩ 1 1 [S yp, S yq] rfl rfl (new_cells _ _ _ _) (by intro u hu; simp at hu; rcases hu with rfl | rfl <;> rfl) (by unfold maxLen; omega) (by omega) (by simp; omega) ?_)
          intro v' w2 hown' hgrow _
          have hB2 : Below (w.heap.size + 1) w1 w2 := ((belowN hBR _).alloc (by simpa using Nat.le_trans hs1 hsz) _).grown hgrow (by simp; omega) (fun j hj => (hown.lt j hj).1)
          clear hgrow hown hBR hc1 hc2 hpp1 hpp2
          go_wp2
          go_roundw
          case rel =>
            refine ⟨k + 1, out ++ [(yp, yq)], by omega, by go_num, hB2, by simpa using hown', by simp; omega, .inr ⟨rfl, ?_⟩⟩
            rw [HI.out, HDK.out]
            simp
          case measure => simp [intOf]; omega
      · have h1' : ¬ (k : Int) < (l.length : Int) := by omega
        have hpp1 := (hBR.cell (p := ⟨w.heap.size, 0, none⟩) (by simp)).trans hp1
        have hpp2 := (hBR.cell (p := ⟨w.heap.size, 1, none⟩) (by simp)).trans hp2
        rcases hst with ⟨rfl, hout, hall⟩ | ⟨rfl, hins⟩
        · have HE := Lib.hid (show insR l (p, q) = out ++ [(p, q)] by
            rw [List.take_of_length_le (by omega)] at hout hall
            rw [hout]; exact ins_end hall)
          clear hout hall
          go_wp2_with (at_builtin; refine wpList_append_own _ rfl _ _ 24 rfl (w.heap.size + 1) 31 i0 (.agg #[.string ⟨#[]⟩, .string ⟨#[]⟩]) 2 32 Try.underlying24 hi hz0 hz1 hz2 rfl (by decide) _ _ _ rfl (hown.alloc _) ⟨wr.heap.size, 0, none⟩ 1 1 [S p, S q] rfl rfl (new_cells _ _ _ _) (by intro u hu; simp at hu; rcases hu with rfl | rfl <;> rfl) (by unfold maxLen; omega) (by omega) (by simp; omega) ?_)
          intro v' w2 hown' hgrow _
          have hB2 : Below (w.heap.size + 1) w1 w2 := (hBR.alloc (by omega) _).grown hgrow (by simp; omega) (fun j hj => (hown.lt j hj).1)
          have HR := Lib.hid (Row.of_owns (xs := out ++ [(p, q)]) (by simpa using hown'))
          clear hgrow hown hBR hpp1 hpp2 hown'
          go_wp2
          go_ret2
          exact ⟨_, by rw [HD4.out]; rfl, by rw [HD4.out]; simp only; rw [HE.out]; exact HR.out, hB1.trans (hB2.mono (by omega))⟩
        · have HE := Lib.hid (show insR l (p, q) = out by rw [hins, List.drop_eq_nil_of_le (by omega), List.append_nil])
          have HR := Lib.hid (Row.of_owns hown)
          clear hins
          go_wp2
          go_ret2
          exact ⟨_, by rw [HD4.out]; rfl, by rw [HD4.out]; simp only; rw [HE.out]; exact HR.out, hB1.trans (hBR.mono (by omega))⟩
end Go.Proofs.Ytmlahfmcccpgjaa
