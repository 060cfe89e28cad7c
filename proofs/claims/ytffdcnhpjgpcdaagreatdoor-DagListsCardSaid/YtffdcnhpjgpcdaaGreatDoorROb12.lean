/- The reference's Same and Add of objects. -/
import Derived.Test.YtffdcnhpjgpcdaaGreatDoorRObj
import Derived.Test.YtffdcnhpjgpcdaaGreatDoorDag12
import Derived.Deep.Cut
import Derived.Deep.RegionWith
import Derived.Sort.Walk0
namespace Go.Proofs.YtffdcnhpjgpcdaaGreatDoor
open Go.RowKit

theorem snps_ne {xs ys : List Snp} {k : Nat} (h1 : k < xs.length) (h2 : k < ys.length) (h : xs[k] ≠ ys[k]) : (xs == ys) = false := by
  rw [beq_eq_false_iff_ne]
  rintro rfl
  exact h rfl
theorem snps_eq {xs ys : List Snp} (hl : xs.length = ys.length) (h : xs.take xs.length = ys.take xs.length) : (xs == ys) = true := by
  rw [beq_iff_eq]
  rw [List.take_of_length_le (Nat.le_refl _), List.take_of_length_le (by omega)] at h
  exact h

set_option maxHeartbeats 1100000 in
set_option maxRecDepth 100000 in
theorem r12same_walk (v v2 : Value) (xs ys : List Snp) (w : World) (hx : SnpRow w v xs) (hy : SnpRow w v2 ys) (hcl : xs.length ≤ 1100000) :
    Calls Tryz.prog 10 #[v, v2] w fun e w' => e = .returned (.bool (xs == ys)) ∧ Below w.heap.size w w' := by
  obtain ⟨a, c, rfl, hc, hm1, hx⟩ := hx
  obtain ⟨a2, c2, rfl, hc2, hm2, hy⟩ := hy
  have HX := Lib.hid hx
  have HY := Lib.hid hy
  clear hx hy
  by_cases hl : xs.length = ys.length
  · have HL := Lib.hid hl
    have hne : ((xs.length : Int) != (ys.length : Int)) = false := by rw [bne_eq_false_iff_eq]; omega
    have hle1 : xs.length ≤ ys.length := by omega
    clear hl
    go_enter Tryz.func10, Tryz.ntmps10
    go_wp2
    go_loopw [5] (fun i wr => ∃ k : Nat, k ≤ xs.length ∧ i = .int .i64 k ∧ xs.take k = ys.take k ∧ Below w.heap.size w wr) (fun i _ => xs.length - (intOf i).toNat)
    case atStart => exact ⟨0, Nat.zero_le _, rfl, rfl, Below.refl _ _⟩
    case round =>
      obtain ⟨k, hk, rfl, ht, hB⟩ := hrel
      have HT := Lib.hid ht
      have HB := Lib.hid hB
      clear ht
      by_cases h1 : k < xs.length
      · have h2 : k < ys.length := by omega
        have hx := HX.out
        rcases hx with hx | ⟨b, o, rfl, hx⟩
        · exfalso; rw [hx] at h1; simp at h1
        obtain ⟨hx1, hx2⟩ := snp_cells hx h1
        have hcx1 := cell_below hB hx1
        have hcx2 := cell_below hB hx2
        have hy := HY.out
        rcases hy with hy | ⟨b2, o2, rfl, hy⟩
        · exfalso; rw [hy] at h2; simp at h2
        obtain ⟨hy1, hy2⟩ := snp_cells hy h2
        have hcy1 := cell_below hB hy1
        have hcy2 := cell_below hB hy2
        have HNE := Lib.hid (fun h => snps_ne h1 h2 h)
        have HST := Lib.hid (fun h : xs[k] = ys[k] => (show xs.take (k + 1) = ys.take (k + 1) by rw [List.take_succ_eq_append_getElem h1, List.take_succ_eq_append_getElem h2, HT.out, h]))
        clear hx hy hB hx1 hx2 hy1 hy2
        generalize xs[k] = p at *
        generalize ys[k] = q at *
        obtain ⟨p1, p2⟩ := p
        obtain ⟨q1, q2⟩ := q
        have h1' : (k : Int) < (xs.length : Int) := by omega
        have h2' : (k : Int) < (ys.length : Int) := by omega
        by_cases hpq : p1 = q1 ∧ p2 = q2
        · obtain ⟨rfl, rfl⟩ := hpq
          have HS := Lib.hid (HST.out rfl)
          go_wp2
          go_quiet (fail)
          go_wp2
          go_roundw
          case rel => exact ⟨k + 1, by omega, by go_num, HS.out, belowN HB.out _⟩
          case measure => simp [intOf]; omega
        · have HS := Lib.hid (HNE.out (by intro h; cases h; exact hpq ⟨rfl, rfl⟩))
          have hcase : (p1 == q1) = false ∨ ((p1 == q1) = true ∧ (p2 == q2) = false) := by
            by_cases h1 : p1 = q1
            · exact .inr ⟨by rw [beq_iff_eq]; exact h1, by rw [beq_eq_false_iff_ne]; exact fun h => hpq ⟨h1, h⟩⟩
            · exact .inl (by rw [beq_eq_false_iff_ne]; exact h1)
          clear hpq
          rcases hcase with h3 | ⟨h3, h4⟩
          all_goals
            go_wp2
            go_quiet (fail)
            go_wp2
            go_ret
            exact ⟨ret_bool HS.out.symm, belowN HB.out _⟩
      · have h1' : ¬ (k : Int) < (xs.length : Int) := by omega
        have HK := Lib.hid (show k = xs.length by omega)
        go_wp2
        go_ret
        exact ⟨ret_bool (snps_eq HL.out (by rw [← HK.out]; exact HT.out)).symm, HB.out⟩
  · have hne : ((xs.length : Int) != (ys.length : Int)) = true := by rw [bne_iff_ne]; omega
    have HE := Lib.hid (show (xs == ys) = false by rw [beq_eq_false_iff_ne]; rintro rfl; exact hl rfl)
    clear hl
    go_enter Tryz.func10, Tryz.ntmps10
    go_wp2
    go_ret
    exact ⟨ret_bool HE.out.symm, Below.refl _ _⟩

theorem infoObj : (Tryz.prog.info? 24).map (fun i => (i.zero, i.size, i.bytes)) = some (some (.agg #[.string ⟨#[]⟩, .string ⟨#[]⟩]), 2, 32) := by kernel_rfl

set_option maxHeartbeats 4000000 in
set_option maxRecDepth 100000 in
theorem r12add_walk (v : Value) (l : List Snp) (x : Snp) (w : World) (hr : SnpRow w v l) (hcnt : l.length ≤ 1100000) :
    Calls Tryz.prog 14 #[v, SnpV x] w fun e w' => ∃ v', e = .returned v' ∧ SnpRow w' v' (addO l x) ∧ Below w.heap.size w w' := by
  obtain ⟨p, q⟩ := x
  have hr1 := hr.below ((Below.refl w.heap.size w).alloc (Nat.le_refl _) (.cells #[S p, S q] 24))
  have C := rget_walk v l p _ hr1 hcnt
  have HD := Lib.hid (show addO l (p, q) = if (findR l p).isSome = true ∨ p.length ≠ 32 then l else insR l (p, q) from rfl)
  generalize rootOf (findR l p) = fr at *
  generalize (findR l p).isSome = is at *
  generalize addO l (p, q) = de at *
  have HR1 := Lib.hid hr1
  obtain ⟨a, c, rfl, hc, hm, hx⟩ := hr
  have HX := Lib.hid hx
  clear hx hr1
  obtain ⟨i0, hi, hz0, hz1, hz2⟩ := info_parts infoObj
  have hBx : Below w.heap.size w (w.alloc (.cells #[S p, S q] 24)) := (Below.refl _ _).alloc (Nat.le_refl _) _
  have hcx1 : (w.alloc (.cells #[S p, S q] 24)).cell? ⟨w.heap.size, 0, none⟩ = some (S p) := by rw [World.cell?_alloc_at _ _ _ _ rfl]; rfl
  have hcx2 : (w.alloc (.cells #[S p, S q] 24)).cell? ⟨w.heap.size, 1, none⟩ = some (S q) := by rw [World.cell?_alloc_at _ _ _ _ rfl]; rfl
  go_enter Tryz.func14, Tryz.ntmps14
  go_wp2_with fail
  refine C.mono ?_
  rintro e w1 ⟨rfl, hb⟩
  have hp1 := cell_below hb hcx1
  have hp2 := cell_below hb hcx2
  have hB1 : Below w.heap.size w w1 := below_chain hBx hb (by simp)
  have hs1 : w.heap.size + 1 ≤ w1.heap.size := by have := hb.size; simpa using this
  have hr1 := HR1.out.below hb
  clear HR1 C hcx1 hcx2 hBx hb
  cases is with
  | true =>
    have HD1 := Lib.hid (HD.out.trans (if_pos (.inl rfl)))
    go_wp2
    go_ret
    exact ⟨_, rfl, by rw [HD1.out]; exact hr1, hB1⟩
  | false =>
  by_cases h32 : p.length ≠ 32
  · have HD1 := Lib.hid (HD.out.trans (if_pos (.inr h32)))
    have hq' : ((p.length : Int) != 32) = true := by rw [bne_iff_ne]; omega
    clear h32
    go_wp2
    go_ret
    exact ⟨_, rfl, by rw [HD1.out]; exact hr1, hB1⟩
  have HD4 := Lib.hid (HD.out.trans (if_neg (fun h => h.elim (fun h => by cases h) h32)))
  have hq' : ((p.length : Int) != 32) = false := by rw [bne_eq_false_iff_eq]; omega
  clear h32 HD
  go_wp2
  go_loopw [7, 8, 9] (fun v dn i wr => ∃ (k : Nat) (out : List Snp), k ≤ l.length ∧ i = .int .i64 k ∧ Below (w.heap.size + 1) w1 wr ∧ wr.ownsRow (w.heap.size + 1) 24 2 v out.length (out.flatMap snpC) ∧ out.length ≤ k + 1 ∧
      ((dn = .bool false ∧ out = l.take k ∧ ∀ y ∈ l.take k, ¬ p < y.1) ∨ (dn = .bool true ∧ insR l (p, q) = out ++ l.drop k))) (fun _ _ i _ => l.length - (intOf i).toNat)
  case atStart => exact ⟨0, [], Nat.zero_le _, rfl, Below.refl _ _, World.ownsRow_nil _ _ _ _, by simp, .inl ⟨rfl, rfl, by simp⟩⟩
  case round =>
    obtain ⟨k, out, hk, rfl, hBR, hown, hol, hst⟩ := hrel
    have hsz := hBR.size
    by_cases h1 : k < l.length
    · have hx := HX.out
      rcases hx with hx | ⟨b, o, rfl, hx⟩
      · exfalso; rw [hx] at h1; simp at h1
      obtain ⟨hy1, hy2⟩ := snp_cells hx h1
      have hBW : Below w.heap.size w wr := hB1.trans (hBR.mono (by omega))
      have hc1 := cell_below hBW hy1
      have hc2 := cell_below hBW hy2
      have hpp1 := (hBR.cell (p := ⟨w.heap.size, 0, none⟩) (by simp)).trans hp1
      have hpp2 := (hBR.cell (p := ⟨w.heap.size, 1, none⟩) (by simp)).trans hp2
      have HTK := Lib.hid (List.take_succ_eq_append_getElem h1)
      have HDK := Lib.hid (List.drop_eq_getElem_cons h1)
      have HW := Lib.hid (fun ha hn => ins_wait (x := (p, q)) h1 ha hn)
      have HN := Lib.hid (fun ha hn => ins_now (x := (p, q)) h1 ha hn)
      have HY1 := Lib.hid hy1
      have HY2 := Lib.hid hy2
      clear hx hy1 hy2
      generalize l[k] = y at *
      obtain ⟨yp, yq⟩ := y
      have h1' : (k : Int) < (l.length : Int) := by omega
      rcases hst with ⟨rfl, hout, hall⟩ | ⟨rfl, hins⟩
      · have hol' : out.length ≤ k := by rw [hout, List.length_take]; omega
        have HO := Lib.hid hout
        have HALL := Lib.hid hall
        clear hout hall
        rcases Classical.em (p < yp) with hlt | hge
        · have hbl : Op.bytesLess yp p = false := by rw [bytesLess_eq]; simpa using List.le_of_lt hlt
          have hpe : (yp == p) = false := by rw [beq_eq_false_iff_ne]; rintro rfl; exact List.lt_irrefl _ hlt
          have HN' := Lib.hid (HN.out HALL.out hlt)
          clear hlt
          go_wp2
          go_quiet (fail)
          go_wp2_with (at_builtin; refine wpList_append_own _ rfl _ _ 22 rfl (w.heap.size + 1) 24 i0 (.agg #[.string ⟨#[]⟩, .string ⟨#[]⟩]) 2 32 Tryz.underlying22 hi hz0 hz1 hz2 rfl (by decide) _ _ _ rfl ((show World.ownsRow (wr.drewN _) _ _ _ _ _ _ from hown).alloc _) ⟨wr.heap.size, 0, none⟩ 1 1 [S p, S q] rfl rfl (new_cells _ _ _ _) (by intro u hu; simp at hu; rcases hu with rfl | rfl <;> rfl) (by unfold maxLen; omega) (by omega) (by simp; omega) ?_)
          intro v' w2 hown' hgrow _
          have hB2 : Below (w.heap.size + 1) w1 w2 := ((belowN hBR _).alloc (by simpa using Nat.le_trans hs1 hsz) _).grown hgrow (by simp; omega) (fun j hj => (hown.lt j hj).1)
          have hsz2 := hB2.size
          have hBW2 : Below w.heap.size w w2 := hB1.trans (hB2.mono (by omega))
          have hc1 := cell_below hBW2 HY1.out
          have hc2 := cell_below hBW2 HY2.out
          clear hgrow hown hBR hc1 hc2 hpp1 hpp2
          have hc1 := cell_below hBW2 HY1.out
          have hc2 := cell_below hBW2 HY2.out
          go_wp2_with (at_builtin; refine wpList_append_own _ rfl _ _ 22 rfl (w.heap.size + 1) 24 i0 (.agg #[.string ⟨#[]⟩, .string ⟨#[]⟩]) 2 32 Tryz.underlying22 hi hz0 hz1 hz2 rfl (by decide) _ _ _ rfl (hown'.alloc _) ⟨w2.heap.size, 0, none⟩ 1 1 [S yp, S yq] rfl rfl (new_cells _ _ _ _) (by intro u hu; simp at hu; rcases hu with rfl | rfl <;> rfl) (by unfold maxLen; omega) (by omega) (by simp; omega) ?_)
          intro v3 w3 hown3 hgrow _
          have hB3 : Below (w.heap.size + 1) w1 w3 := (hB2.alloc (by omega) _).grown hgrow (by simp; omega) (fun j hj => (hown'.lt j hj).1)
          clear hgrow hown' hc1 hc2
          go_wp2
          go_roundw
          case rel =>
            refine ⟨k + 1, out ++ [(p, q)] ++ [(yp, yq)], by omega, by go_num, hB3, by simpa using hown3, by simp; omega, .inr ⟨rfl, ?_⟩⟩
            rw [HN'.out, HDK.out, HO.out]
            simp
          case measure => simp [intOf]; omega
        · have HW' := Lib.hid (HW.out HALL.out hge)
          have hcase : (Op.bytesLess yp p = true ∧ (yp == p) = false) ∨ (Op.bytesLess yp p = false ∧ (yp == p) = true) := by
            rw [bytesLess_eq]
            rcases lt_or_eq_or_gt yp p with h | h | h
            · exact .inl ⟨by simpa using h, by rw [beq_eq_false_iff_ne]; rintro rfl; exact List.lt_irrefl _ h⟩
            · exact .inr ⟨by rw [h]; simp, by rw [beq_iff_eq]; exact h⟩
            · exact absurd h hge
          clear hge
          rcases hcase with ⟨hbl, hpe⟩ | ⟨hbl, hpe⟩
          all_goals
            go_wp2
            go_quiet (fail)
            go_wp2_with (at_builtin; refine wpList_append_own _ rfl _ _ 22 rfl (w.heap.size + 1) 24 i0 (.agg #[.string ⟨#[]⟩, .string ⟨#[]⟩]) 2 32 Tryz.underlying22 hi hz0 hz1 hz2 rfl (by decide) _ _ _ rfl ((show World.ownsRow (wr.drewN _) _ _ _ _ _ _ from hown).alloc _) ⟨wr.heap.size, 0, none⟩ 1 1 [S yp, S yq] rfl rfl (new_cells _ _ _ _) (by intro u hu; simp at hu; rcases hu with rfl | rfl <;> rfl) (by unfold maxLen; omega) (by omega) (by simp; omega) ?_)
            intro v' w2 hown' hgrow _
            have hB2 : Below (w.heap.size + 1) w1 w2 := ((belowN hBR _).alloc (by simpa using Nat.le_trans hs1 hsz) _).grown hgrow (by simp; omega) (fun j hj => (hown.lt j hj).1)
            clear hgrow hown hBR hc1 hc2 hpp1 hpp2
            go_wp2
            go_roundw
            case rel =>
              refine ⟨k + 1, out ++ [(yp, yq)], by omega, by go_num, hB2, by simpa using hown', by simp; omega, .inl ⟨rfl, ?_, HW'.out⟩⟩
              rw [HTK.out, HO.out]
            case measure => simp [intOf]; omega
      · have HI := Lib.hid hins
        clear hins
        go_wp2
        go_quiet (fail)
        go_wp2_with (at_builtin; refine wpList_append_own _ rfl _ _ 22 rfl (w.heap.size + 1) 24 i0 (.agg #[.string ⟨#[]⟩, .string ⟨#[]⟩]) 2 32 Tryz.underlying22 hi hz0 hz1 hz2 rfl (by decide) _ _ _ rfl ((show World.ownsRow (wr.drewN _) _ _ _ _ _ _ from hown).alloc _) ⟨wr.heap.size, 0, none⟩ 1 1 [S yp, S yq] rfl rfl (new_cells _ _ _ _) (by intro u hu; simp at hu; rcases hu with rfl | rfl <;> rfl) (by unfold maxLen; omega) (by omega) (by simp; omega) ?_)
        intro v' w2 hown' hgrow _
        have hB2 : Below (w.heap.size + 1) w1 w2 := ((belowN hBR _).alloc (by simpa using Nat.le_trans hs1 hsz) _).grown hgrow (by simp; omega) (fun j hj => (hown.lt j hj).1)
        clear hgrow hown hBR hc1 hc2 hpp1 hpp2
        go_wp2
        go_roundw
        case rel =>
          refine ⟨k + 1, out ++ [(yp, yq)], by omega, by go_num, hB2, by simpa using hown', by simp; omega, .inr ⟨rfl, ?_⟩⟩
          rw [HI.out, HDK.out]
          simp
        case measure => simp [intOf]; omega
    · have h1' : ¬ (k : Int) < (l.length : Int) := by omega
      have hpp1 := (hBR.cell (p := ⟨w.heap.size, 0, none⟩) (by simp)).trans hp1
      have hpp2 := (hBR.cell (p := ⟨w.heap.size, 1, none⟩) (by simp)).trans hp2
      rcases hst with ⟨rfl, hout, hall⟩ | ⟨rfl, hins⟩
      · have HE := Lib.hid (show insR l (p, q) = out ++ [(p, q)] by
          rw [List.take_of_length_le (by omega)] at hout hall
          rw [hout]; exact ins_end hall)
        clear hout hall
        go_wp2_with (at_builtin; refine wpList_append_own _ rfl _ _ 22 rfl (w.heap.size + 1) 24 i0 (.agg #[.string ⟨#[]⟩, .string ⟨#[]⟩]) 2 32 Tryz.underlying22 hi hz0 hz1 hz2 rfl (by decide) _ _ _ rfl (hown.alloc _) ⟨wr.heap.size, 0, none⟩ 1 1 [S p, S q] rfl rfl (new_cells _ _ _ _) (by intro u hu; simp at hu; rcases hu with rfl | rfl <;> rfl) (by unfold maxLen; omega) (by omega) (by simp; omega) ?_)
        intro v' w2 hown' hgrow _
        have hB2 : Below (w.heap.size + 1) w1 w2 := (hBR.alloc (by omega) _).grown hgrow (by simp; omega) (fun j hj => (hown.lt j hj).1)
        have HR := Lib.hid (Row.of_owns (xs := out ++ [(p, q)]) (by simpa using hown'))
        clear hgrow hown hBR hpp1 hpp2 hown'
        go_wp2
        go_ret
        exact ⟨_, rfl, by rw [HD4.out, HE.out]; exact HR.out, hB1.trans (hB2.mono (by omega))⟩
      · have HE := Lib.hid (show insR l (p, q) = out by rw [hins, List.drop_eq_nil_of_le (by omega), List.append_nil])
        have HR := Lib.hid (Row.of_owns hown)
        clear hins
        go_wp2
        go_ret
        exact ⟨_, rfl, by rw [HD4.out, HE.out]; exact HR.out, hB1.trans (hBR.mono (by omega))⟩
end Go.Proofs.YtffdcnhpjgpcdaaGreatDoor
