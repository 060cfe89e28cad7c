/- The program's Fit, Same, Add of objects. -/
import Derived.Test.YtffdcnhpjgpcdaaGreatDoorObjAt
import Derived.Test.YtffdcnhpjgpcdaaGreatDoorROb12
import Derived.Test.YtffdcnhpjgpcdaaGreatDoorCloObj
import Derived.Test.YtffdcnhpjgpcdaaGreatDoorInsObj
namespace Go.Proofs.YtffdcnhpjgpcdaaGreatDoor
open Go.RowKit

theorem flat_one (l : List Snp) : ∀ u ∈ l.flatMap snpC, u.oneCell' = true := by
  intro u hu
  obtain ⟨x, _, hx⟩ := List.mem_flatMap.1 hu
  simp at hx
  rcases hx with rfl | rfl <;> rfl
theorem row_flat {w : World} {a : Option Addr} {c : Nat} {l : List Snp} (hr : SnpRow w (.slice a l.length c) l) : l.flatMap snpC = [] ∨ ∃ b o, a = some ⟨b, o, none⟩ ∧ ∀ j u, (l.flatMap snpC)[j]? = some u → w.cell? ⟨b, o + j, none⟩ = some u := by
  obtain ⟨a', c', hv, _, _, hx⟩ := hr
  cases hv
  rcases hx with hx | ⟨b, o, ha, hx⟩
  · exact .inl (by rw [hx]; rfl)
  · refine .inr ⟨b, o, ha, fun j u hj => ?_⟩
    have hlt : j < (l.flatMap snpC).length := (List.getElem?_eq_some_iff.1 hj).1
    rw [flat_len] at hlt
    have hk : j / 2 < l.length := by omega
    have h1 := hx (j / 2) l[j / 2] (by simp [hk]) (j % 2)
    have h2 := flat_at l (j / 2) l[j / 2] (j % 2)
    have e : j / 2 * (snpC l[j / 2]).length + j % 2 = j := by simp; omega
    have e2 : o + j / 2 * (snpC l[j / 2]).length + j % 2 = o + j := by simp; omega
    have h3 : j % 2 = 0 ∨ j % 2 = 1 := by omega
    have h4 : ∃ v, (snpC l[j / 2])[j % 2]? = some v := by rcases h3 with h | h <;> rw [h] <;> exact ⟨_, rfl⟩
    obtain ⟨v, hv⟩ := h4
    have h5 := h2 v (by simp [hk]) hv
    rw [e, hj] at h5
    cases h5
    have h6 := h1 u hv
    rwa [e2] at h6

set_option maxHeartbeats 1100000 in
set_option maxRecDepth 100000 in
theorem psameO_walk (v v2 : Value) (xs ys : List Snp) (w : World) (hx : SnpRow w v xs) (hy : SnpRow w v2 ys) (hcl : xs.length ≤ 1100000) :
    Calls Tryz.prog 19 #[v, v2] w fun e w' => e = .returned (.bool (xs == ys)) ∧ Below w.heap.size w w' := by
  obtain ⟨a, c, rfl, hc, hm1, hx⟩ := hx
  obtain ⟨a2, c2, rfl, hc2, hm2, hy⟩ := hy
  have HX := Lib.hid hx
  have HY := Lib.hid hy
  clear hx hy
  by_cases hl : xs.length = ys.length
  · have HL := Lib.hid hl
    have hne : ((xs.length : Int) != (ys.length : Int)) = false := by rw [bne_eq_false_iff_eq]; omega
    have hle1 : xs.length ≤ ys.length := by omega
    clear hl
    go_enter Tryz.func19, Tryz.ntmps19
    go_wp2
    go_loopw [13] (fun i wr => ∃ k : Nat, k ≤ xs.length ∧ i = .int .i64 k ∧ xs.take k = ys.take k ∧ Below w.heap.size w wr) (fun i _ => xs.length - (intOf i).toNat)
    case atStart => exact ⟨0, Nat.zero_le _, rfl, rfl, Below.refl _ _⟩
    case round =>
      obtain ⟨k, hk, rfl, ht, hB⟩ := hrel
      have HT := Lib.hid ht
      have HB := Lib.hid hB
      clear ht
      by_cases h1 : k < xs.length
      · have h2 : k < ys.length := by omega
        have hx := HX.out
        rcases hx with hx | ⟨b, o, rfl, hx⟩
        · exfalso; rw [hx] at h1; simp at h1
        obtain ⟨hx1, hx2⟩ := snp_cells hx h1
        have hcx1 := cell_below hB hx1
        have hcx2 := cell_below hB hx2
        have hy := HY.out
        rcases hy with hy | ⟨b2, o2, rfl, hy⟩
        · exfalso; rw [hy] at h2; simp at h2
        obtain ⟨hy1, hy2⟩ := snp_cells hy h2
        have hcy1 := cell_below hB hy1
        have hcy2 := cell_below hB hy2
        have h1' : (k : Int) < (xs.length : Int) := by omega
        have h2' : (k : Int) < (ys.length : Int) := by omega
        have hkc1 : (k : Int) < (c : Int) := by omega
        clear hx hx1 hx2 hy hy1 hy2 hB
        by_cases hxy : xs[k] = ys[k]
        · have HS := Lib.hid (show xs.take (k + 1) = ys.take (k + 1) by rw [List.take_succ_eq_append_getElem h1, List.take_succ_eq_append_getElem h2, HT.out, hxy])
          rw [← hxy] at hcy1 hcy2
          clear hxy
          generalize xs[k] = y at *
          obtain ⟨p, q⟩ := y
          go_wp2
          go_quiet (fail)
          go_wp2
          go_roundw
          case rel => exact ⟨k + 1, by omega, by go_num, HS.out, belowN HB.out _⟩
          case measure => simp [intOf]; omega
        · have HF := Lib.hid (snps_ne h1 h2 hxy)
          have hne2 : xs[k].1 ≠ ys[k].1 ∨ (xs[k].1 = ys[k].1 ∧ xs[k].2 ≠ ys[k].2) := by
            by_cases h : xs[k].1 = ys[k].1
            · exact .inr ⟨h, fun h2 => hxy (Prod.ext h h2)⟩
            · exact .inl h
          clear hxy
          generalize xs[k] = y at *
          generalize ys[k] = z at *
          obtain ⟨p, q⟩ := y
          obtain ⟨p2, q2⟩ := z
          simp only at hne2
          have hb1 : ((p == p2) && (q == q2)) = false := by
            rcases hne2 with h | ⟨_, h⟩
            · have : (p == p2) = false := by rw [beq_eq_false_iff_ne]; exact h
              rw [this]; rfl
            · have : (q == q2) = false := by rw [beq_eq_false_iff_ne]; exact h
              rw [this]; simp
          rw [Bool.and_eq_false_iff] at hb1
          clear hne2
          rcases hb1 with hb1 | hb1
          all_goals
            go_wp2
            go_quiet (fail)
            go_wp2
            go_ret
            exact ⟨by rw [HF.out]; rfl, belowN HB.out _⟩
      · have h1' : ¬ (k : Int) < (xs.length : Int) := by omega
        have HF := Lib.hid (snps_eq HL.out (by have := HT.out; have hk2 : k = xs.length := by omega
                                               rwa [hk2] at this))
        go_wp2
        go_ret
        exact ⟨by rw [HF.out]; rfl, HB.out⟩
  · have HF := Lib.hid (show (xs == ys) = false by rw [beq_eq_false_iff_ne]; rintro rfl; exact hl rfl)
    have hne : ((xs.length : Int) != (ys.length : Int)) = true := by rw [bne_iff_ne]; omega
    clear hl
    go_enter Tryz.func19, Tryz.ntmps19
    go_wp2
    go_ret
    exact ⟨by rw [HF.out]; rfl, Below.refl _ _⟩

theorem psameO2_walk (v v2 : Value) (xs ys : List Snp) (w : World) (hx : SnpRow w v xs) (hy : SnpRow w v2 ys) (hcl : xs.length ≤ 1100000) :
    Calls Tryz.prog 12 #[v, v2] w fun e w' => e = .returned (.bool (xs == ys)) ∧ Below w.heap.size w w' := by
  have C := psameO_walk v v2 xs ys w hx hy hcl
  generalize (xs == ys) = r at *
  go_enter Tryz.func12, Tryz.ntmps12
  go_wp2_with (go_at_call 19; refine (C).mono ?_; rintro e w1 ⟨rfl, hb⟩)
  go_ret
  exact ⟨rfl, hb⟩

set_option maxHeartbeats 4000000 in
set_option maxRecDepth 100000 in
theorem paddO_walk (v : Value) (l : List Snp) (x : Snp) (w : World) (hr : SnpRow w v l) (hcnt : l.length ≤ 1000000) (hup : upS (namesR l)) :
    Calls Tryz.prog 8 #[v, SnpV x] w fun e w' => ∃ v', e = .returned v' ∧ SnpRow w' v' (addO l x) ∧ Below w.heap.size w w' := by
  obtain ⟨p, q⟩ := x
  have hBx : Below w.heap.size w (w.alloc (.cells #[S p, S q] 24)) := (Below.refl _ _).alloc (Nat.le_refl _) _
  have hr1 := hr.below hBx
  have hcnt : l.length ≤ 1100000 := by omega
  have C := pato_walk v l p _ hr1 hcnt hup
  have HD := Lib.hid (show addO l (p, q) = if (findR l p).isSome = true ∨ p.length ≠ 32 then l else insR l (p, q) from rfl)
  generalize addO l (p, q) = de at *
  have HIN := Lib.hid (fun h => insR_pos (l := l) (x := (p, q)) h)
  have hfs := findR_is (n := p) hup
  have hdd : decide (p ∈ l.map (·.1)) = decide (p ∈ namesR l) := rfl
  rw [hdd] at C
  rw [hfs] at HD
  have HMEM := Lib.hid (fun (h : decide (p ∈ namesR l) = false) => (show p ∉ namesR l by simpa using h))
  have hpp : posL (l.map (·.1)) p = posL (namesR l) p := rfl
  rw [hpp] at C
  have hpl : posL (namesR l) p ≤ l.length := by have := posL_le (namesR l) p; rwa [namesR_len] at this
  have HPL := Lib.hid hpl
  simp only at HIN
  generalize posL (namesR l) p = k at *
  generalize decide (p ∈ namesR l) = is at *
  have HR1 := Lib.hid hr1
  obtain ⟨a, c, rfl, hc, hm, hx⟩ := hr
  clear hx hr1 hfs hdd hpp hup
  have hcx1 := cell_new w #[S p, S q] 24 0 rfl
  have hcx2 := cell_new w #[S p, S q] 24 1 rfl
  go_enter Tryz.func8, Tryz.ntmps8
  go_wp2_with fail
  refine C.mono ?_
  rintro e wB ⟨rfl, hb⟩
  have hq1 := cell_below hb hcx1
  have hq2 := cell_below hb hcx2
  have hB2 := below_chain hBx hb (by simp)
  have hs2 : w.heap.size + 1 ≤ wB.heap.size := by have := hb.size; simpa using this
  have hr2 := HR1.out.below hb
  clear HR1 C hcx1 hcx2 hBx hb
  cases is with
  | true =>
    have HD1 := Lib.hid (HD.out.trans (if_pos (.inl rfl)))
    go_wp2
    go_ret
    exact ⟨_, rfl, by rw [HD1.out]; exact hr2, hB2⟩
  | false =>
  by_cases h32 : p.length ≠ 32
  · have HD1 := Lib.hid (HD.out.trans (if_pos (.inr h32)))
    have hq' : ((p.length : Int) != 32) = true := by rw [bne_iff_ne]; omega
    clear h32
    go_wp2
    go_ret
    exact ⟨_, rfl, by rw [HD1.out]; exact hr2, hB2⟩
  have HD4 := Lib.hid (HD.out.trans (if_neg (fun h => h.elim (fun h => by cases h) h32)))
  have hq' : ((p.length : Int) != 32) = false := by rw [bne_eq_false_iff_eq]; omega
  have HINS := Lib.hid (HIN.out (HMEM.out rfl))
  clear h32 HD HIN HMEM
  have HR2 := Lib.hid hr2
  have CC := fun (W : World) (h : Below wB.heap.size wB W) => cloObj_walk W.heap.size a l.length c (l.flatMap snpC) W (Nat.le_refl _) hcnt (flat_len l) (row_flat (HR2.out.below h)) (flat_one l)
  have HCC := Lib.hid CC
  have CI := fun (B : Nat) (v : Value) (vb : Nat) (W : World) (h1 : W.ownsRow B 24 2 v l.length (l.flatMap snpC)) (h2 : B ≤ W.heap.size) (h3 : W.heap[vb]? = some (.cells [S p, S q].toArray 24 (0, 0))) (h4 : v.ownBlock ≠ some vb) => insObj_walk B v l.length k vb (l.flatMap snpC) [S p, S q] W h1 HPL.out h2 hcnt rfl h3 (by intro u hu; simp at hu; rcases hu with rfl | rfl <;> rfl) (flat_one l) h4
  have HCI := Lib.hid CI
  clear CC CI hr2
  go_upto_region 4 with fail
  go_region_with (first
    | (go_at_call 18; refine (HCC.out _ ?_).mono ?_; (repeat (first | exact Below.refl _ _ | refine Below.drew ?_ | refine Below.alloc ?_ (by simp) _)); rintro e w3 ⟨v3, rfl, hown3, hb3⟩; have hz3 := hb3.size; (have ht1 : w3.cell? ⟨w.heap.size, 0, none⟩ = some (S p) := by first | exact cell_below hb3 (show World.cell? _ _ = _ from hq1) | exact cell_below hb3 (show World.cell? _ _ = _ from cell_old hq1 _)); (have ht2 : w3.cell? ⟨w.heap.size, 1, none⟩ = some (S q) := by first | exact cell_below hb3 (show World.cell? _ _ = _ from hq2) | exact cell_below hb3 (show World.cell? _ _ = _ from cell_old hq2 _)))
    | (go_at_call 17; (with_reducible refine (HCI.out _ _ _ _ (hown3.alloc _) ?_ ?_ ?_).mono ?_); (simp at hz3 ⊢; omega); (exact heap_alloc_new _ _); (exact (fun e => by have := (hown3.lt _ e).2; omega)); rintro e w4 ⟨v4, rfl, hown4, hb4⟩; have hfin : Below wB.heap.size wB w4 := ((((below_drewN 1).trans (hb3.mono (by simp)))).alloc (by simp at hz3 ⊢; omega) _).trans (hb4.mono (by simp)))
    | (go_at_call 17; (with_reducible refine (HCI.out _ _ _ _ hown3 ?_ ?_ ?_).mono ?_); (simp at hz3 ⊢; omega); (exact (hb3.block _ (by simp)).trans (heap_alloc_new _ _)); (exact (fun e => by have := (hown3.lt _ e).1; simp at this; omega)); rintro e w4 ⟨v4, rfl, hown4, hb4⟩; have hfin : Below wB.heap.size wB w4 := ((((below_drewN 1).alloc (Nat.le_refl _) _).trans (hb3.mono (by simp))).trans (hb4.mono (by simp)))))
  all_goals
    have hlen : (l.take k ++ (p, q) :: l.drop k).length = l.length + 1 := by have := HPL.out; simp; omega
    have HO := Lib.hid (Row.of_owns (xs := l.take k ++ (p, q) :: l.drop k) (by rw [← flat_ins, hlen]; exact hown4))
    clear hown4 hown3 hlen hb4 hb3
    go_wp2
    go_ret
    exact ⟨_, rfl, by rw [HD4.out, HINS.out]; exact HO.out, below_chain hB2 hfin hB2.size⟩

theorem names_get {l : List Snp} {k : Nat} (h : k < l.length) : (namesR l)[k]'(by rw [namesR_len]; exact h) = l[k].1 := by simp [namesR]

set_option maxHeartbeats 4000000 in
set_option maxRecDepth 100000 in
theorem pfitO_walk (v : Value) (l : List Snp) (w : World) (hr : SnpRow w v l) (hcnt : l.length ≤ 1100000) :
    Calls Tryz.prog 11 #[v] w fun e w' => e = .returned (.bool (fit5 (namesR l))) ∧ Below w.heap.size w w' := by
  obtain ⟨a, c, rfl, hc, hm, hx⟩ := hr
  have HX := Lib.hid hx
  have HBAD := Lib.hid (fun k (h : k < l.length) (hb : l[k].1.length ≠ 32) => show fit5 (namesR l) = false from fit5_bad (k := k) (by rw [namesR_len]; exact h) (by rw [names_get h]; exact hb))
  have HDWN := Lib.hid (fun j (h : j + 1 < l.length) (hb : ¬ l[j].1 < l[j + 1].1) => show fit5 (namesR l) = false from fit5_down (j := j) (by rw [namesR_len]; exact h) (by rw [names_get h, names_get (show j < l.length by omega)]; exact hb))
  have HALLF := Lib.hid (fun h1 h2 => fit5_all (l := namesR l) h1 h2)
  have HNL := Lib.hid (namesR_len l)
  have HA32 := Lib.hid (fun k (h : k < l.length) (ha : ∀ x ∈ (namesR l).take k, x.length = 32) (hb : l[k].1.length = 32) => show ∀ x ∈ (namesR l).take (k + 1), x.length = 32 from all32_step (l := namesR l) (k := k) (by rw [namesR_len]; exact h) ha (by rw [names_get h]; exact hb))
  have HUPS := Lib.hid (fun j (h : j + 1 < l.length) => show upN ((namesR l).take (j + 2)) = (upN ((namesR l).take (j + 1)) && decide (l[j].1 < l[j + 1].1)) by rw [upN_step (l := namesR l) (k := j) (by rw [namesR_len]; exact h), names_get h, names_get (show j < l.length by omega)])
  have HONE := Lib.hid (fit5_one (namesR l))
  generalize fit5 (namesR l) = res at *
  clear hx
  go_enter Tryz.func11, Tryz.ntmps11
  go_wp2
  go_loopw [7] (fun i wr => ∃ k : Nat, k ≤ l.length ∧ i = .int .i64 k ∧ (∀ x ∈ (namesR l).take k, x.length = 32) ∧ upN ((namesR l).take k) = true ∧ Below w.heap.size w wr) (fun i _ => l.length - (intOf i).toNat)
  case atStart => exact ⟨0, Nat.zero_le _, rfl, by simp, rfl, Below.refl _ _⟩
  case round =>
    obtain ⟨k, hk, rfl, ha, hu, hB⟩ := hrel
    have HA := Lib.hid ha
    have HU := Lib.hid hu
    clear ha hu
    by_cases h1 : k < l.length
    · have h1' : (k : Int) < (l.length : Int) := by omega
      have hx := HX.out
      rcases hx with hx | ⟨b, o, rfl, hx⟩
      · exfalso; rw [hx] at h1; simp at h1
      obtain ⟨hx1, hx2⟩ := snp_cells hx h1
      have hc1 := cell_below hB hx1
      have hc2 := cell_below hB hx2
      have HB1 := Lib.hid (HBAD.out k h1)
      have HA1 := Lib.hid (HA32.out k h1 HA.out)
      by_cases hz : k = 0
      · subst hz
        simp only [Nat.zero_mul, Nat.add_zero] at hc1 hc2
        have hz0 : ((0 : Nat) : Int) = 0 := rfl
        clear hx hx1 hx2
        generalize l[0] = y at *
        obtain ⟨p, q⟩ := y
        simp only at hc1 hc2 HB1 HA1
        obtain ⟨w1, hw1, hx0, HBA⟩ : ∃ w1, w1 = wr.alloc (.cells #[S p, S q] 24) ∧ w1.cell? ⟨wr.heap.size, 0, none⟩ = some (S p) ∧ Hid (Below w.heap.size w w1) := ⟨_, rfl, cell_new wr #[S p, S q] 24 0 rfl, hB.alloc hB.size _⟩
        by_cases hl : p.length = 32
        · have hl' : ((p.length : Int) != 32) = false := by rw [bne_eq_false_iff_eq]; omega
          have HS := Lib.hid (HA1.out hl)
          clear hl
          go_upto_region 4 with fail
          rw [← hw1]
          clear hw1
          go_quiet (fail)
          go_wp2
          go_roundw
          case rel => exact ⟨1, by omega, by go_num, HS.out, HONE.out, belowN HBA.out _⟩
          case measure => simp [intOf]; omega
        · have hl' : ((p.length : Int) != 32) = true := by rw [bne_iff_ne]; omega
          have HR := Lib.hid (HB1.out hl)
          clear hl
          go_upto_region 4 with fail
          rw [← hw1]
          clear hw1
          go_quiet (fail)
          go_wp2
          go_ret
          exact ⟨by rw [HR.out]; rfl, belowN HBA.out _⟩
      · obtain ⟨j, rfl⟩ : ∃ j, k = j + 1 := ⟨k - 1, by omega⟩
        have hj : j < l.length := by omega
        have hd1 := cell_below hB (snp_cells hx hj).1
        have HD := Lib.hid (HDWN.out j h1)
        have HUS := Lib.hid (HUPS.out j h1)
        have hwr : IntKind.i64.wrap (j : Int) = (j : Int) := by rw [IntKind.wrap_i64]; omega
        have hpos : (0 : Int) < ((j + 1 : Nat) : Int) := by omega
        have hj' : (j : Int) < (l.length : Int) := by omega
        clear hx hz hx1 hx2
        generalize l[j + 1] = y at *
        generalize l[j] = y0 at *
        obtain ⟨p, q⟩ := y
        obtain ⟨p0, q0⟩ := y0
        simp only at hc1 hc2 hd1 HB1 HA1 HD HUS
        obtain ⟨w1, hw1, hx0, hd0, HBA⟩ : ∃ w1, w1 = wr.alloc (.cells #[S p, S q] 24) ∧ w1.cell? ⟨wr.heap.size, 0, none⟩ = some (S p) ∧ w1.cell? ⟨b, o + j * 2, none⟩ = some (S p0) ∧ Hid (Below w.heap.size w w1) := ⟨_, rfl, cell_new wr #[S p, S q] 24 0 rfl, cell_old hd1 _, hB.alloc hB.size _⟩
        by_cases hl : p.length = 32
        · have hl' : ((p.length : Int) != 32) = false := by rw [bne_eq_false_iff_eq]; omega
          have HS := Lib.hid (HA1.out hl)
          clear hl
          have hcase : (p0 < p ∧ Op.bytesLess p0 p = true) ∨ (¬ p0 < p ∧ Op.bytesLess p0 p = false) := by
            rw [bytesLess_eq]
            by_cases h : p0 < p
            · exact .inl ⟨h, by simpa using h⟩
            · exact .inr ⟨h, by simpa using h⟩
          rcases hcase with ⟨hlt, hbl⟩ | ⟨hlt, hbl⟩
          · have HU2 := Lib.hid (show upN ((namesR l).take (j + 2)) = true by rw [HUS.out, HU.out]; simp [hlt])
            clear hlt
            go_upto_region 4 with fail
            rw [← hw1]
            clear hw1 hc1 hc2 hd1
            go_quiet (fail)
            go_wp2
            go_roundw
            case rel => exact ⟨j + 2, by omega, by go_num, HS.out, HU2.out, belowN HBA.out _⟩
            case measure => simp [intOf]; omega
          · have HR := Lib.hid (HD.out hlt)
            clear hlt
            go_upto_region 4 with fail
            rw [← hw1]
            clear hw1 hc1 hc2 hd1
            go_quiet (fail)
            go_wp2
            go_ret
            exact ⟨by rw [HR.out]; rfl, belowN HBA.out _⟩
        · have hl' : ((p.length : Int) != 32) = true := by rw [bne_iff_ne]; omega
          have HR := Lib.hid (HB1.out hl)
          clear hl
          go_upto_region 4 with fail
          rw [← hw1]
          clear hw1 hc1 hc2 hd1
          go_quiet (fail)
          go_wp2
          go_ret
          exact ⟨by rw [HR.out]; rfl, belowN HBA.out _⟩
    · have h1' : ¬ (k : Int) < (l.length : Int) := by omega
      have HR := Lib.hid (HALLF.out (by have e := HA.out; rwa [List.take_of_length_le (by rw [HNL.out]; omega)] at e) (by have e := HU.out; rwa [List.take_of_length_le (by rw [HNL.out]; omega)] at e))
      go_wp2
      go_ret
      exact ⟨by rw [HR.out]; rfl, hB⟩
end Go.Proofs.YtffdcnhpjgpcdaaGreatDoor
