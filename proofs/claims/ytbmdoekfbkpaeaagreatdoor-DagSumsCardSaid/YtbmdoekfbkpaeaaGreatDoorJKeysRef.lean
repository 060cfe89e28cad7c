/- The reference's sets of keys: Fit. DagSums: each object's key is its bytes' sum, its bytes are a fit node's, each key that it names is an object's, too; the topmost key is a directory's, unless two of its bytes have one sum. -/
import Derived.Test.YtbmdoekfbkpaeaaGreatDoorJBuildPlain
import Derived.Test.YtbmdoekfbkpaeaaGreatDoorJClash12
import Derived.Test.YtbmdoekfbkpaeaaGreatDoorJSort12L
import Derived.Test.YtbmdoekfbkpaeaaGreatDoorJFew12
import Derived.Test.YtbmdoekfbkpaeaaGreatDoorR11f
import Derived.Deep.CutRange
namespace Go.Proofs.YtbmdoekfbkpaeaaGreatDoor
open Go.RowKit

set_option maxHeartbeats 4000000 in
set_option maxRecDepth 100000 in
theorem rfit5_walk (v : Value) (xs : List (List UInt8)) (w : World) (hr : StrRow w v xs) (hcnt : xs.length ≤ 1100000) :
    Calls Tryz.prog 13 #[v] w fun e w' => e = .returned (.bool (fit5 xs)) ∧ Below w.heap.size w w' := by
  obtain ⟨a, c, rfl, hc, hm, hx⟩ := hr
  have HX := Lib.hid hx
  have HBAD := Lib.hid (fun k h => fit5_bad (l := xs) (k := k) h)
  have HDWN := Lib.hid (fun j h => fit5_down (l := xs) (j := j) h)
  have HALLF := Lib.hid (fun h1 h2 => fit5_all (l := xs) h1 h2)
  generalize fit5 xs = res at *
  clear hx
  go_enter Tryz.func13, Tryz.ntmps13
  go_wp2
  go_loopw [3] (fun i wr => ∃ k : Nat, k ≤ xs.length ∧ i = .int .i64 k ∧ (∀ x ∈ xs.take k, x.length = 32) ∧ upN (xs.take k) = true ∧ Below w.heap.size w wr) (fun i _ => xs.length - (intOf i).toNat)
  case atStart => exact ⟨0, Nat.zero_le _, rfl, by simp, rfl, Below.refl _ _⟩
  case round =>
    obtain ⟨k, hk, rfl, ha, hu, hB⟩ := hrel
    have HA := Lib.hid ha
    have HU := Lib.hid hu
    clear ha hu
    by_cases h1 : k < xs.length
    · have h1' : (k : Int) < (xs.length : Int) := by omega
      have hx := HX.out
      rcases hx with hx | ⟨b, o, rfl, hx⟩
      · exfalso; rw [hx] at h1; simp at h1
      have hc1 := cell_below hB (str_cell hx h1)
      have HB1 := Lib.hid (HBAD.out k h1)
      have HA1 := Lib.hid (all32_step h1 HA.out)
      by_cases hz : k = 0
      · subst hz
        have HU1 := Lib.hid (fit5_one xs)
        simp only [Nat.add_zero] at hc1
        have hz0 : ((0 : Nat) : Int) = 0 := rfl
        clear hx
        generalize xs[0] = y at *
        by_cases hl : y.length = 32
        · have hl' : ((y.length : Int) != 32) = false := by rw [bne_eq_false_iff_eq]; omega
          have HS := Lib.hid (HA1.out hl)
          clear hl
          go_wp2
          go_quiet (fail)
          go_wp2
          go_roundw
          case rel => exact ⟨1, by omega, by go_num, HS.out, HU1.out, belowN hB _⟩
          case measure => simp [intOf]; omega
        · have hl' : ((y.length : Int) != 32) = true := by rw [bne_iff_ne]; omega
          have HR := Lib.hid (HB1.out hl)
          clear hl
          go_wp2
          go_quiet (fail)
          go_wp2
          go_ret
          exact ⟨by rw [HR.out]; rfl, belowN hB _⟩
      · obtain ⟨j, rfl⟩ : ∃ j, k = j + 1 := ⟨k - 1, by omega⟩
        have hj : j < xs.length := by omega
        have hc2 := cell_below hB (str_cell hx hj)
        have HD := Lib.hid (HDWN.out j h1)
        have HUS := Lib.hid (upN_step h1)
        have hwr : IntKind.i64.wrap (j : Int) = (j : Int) := by rw [IntKind.wrap_i64]; omega
        have hpos : (0 : Int) < ((j + 1 : Nat) : Int) := by omega
        have hj' : (j : Int) < (xs.length : Int) := by omega
        clear hx hz
        generalize xs[j + 1] = y at *
        generalize xs[j] = y0 at *
        by_cases hl : y.length = 32
        · have hl' : ((y.length : Int) != 32) = false := by rw [bne_eq_false_iff_eq]; omega
          have HS := Lib.hid (HA1.out hl)
          clear hl
          have hcase : (y0 < y ∧ Op.bytesLess y0 y = true) ∨ (¬ y0 < y ∧ Op.bytesLess y0 y = false) := by
            rw [bytesLess_eq]
            by_cases h : y0 < y
            · exact .inl ⟨h, by simpa using h⟩
            · exact .inr ⟨h, by simpa using h⟩
          rcases hcase with ⟨hlt, hbl⟩ | ⟨hlt, hbl⟩
          · have HU2 := Lib.hid (show upN (xs.take (j + 2)) = true by rw [HUS.out, HU.out]; simp [hlt])
            clear hlt
            go_wp2
            go_quiet (fail)
            go_wp2
            go_roundw
            case rel => exact ⟨j + 2, by omega, by go_num, HS.out, HU2.out, belowN hB _⟩
            case measure => simp [intOf]; omega
          · have HR := Lib.hid (HD.out hlt)
            clear hlt
            go_wp2
            go_quiet (fail)
            go_wp2
            go_ret
            exact ⟨by rw [HR.out]; rfl, belowN hB _⟩
        · have hl' : ((y.length : Int) != 32) = true := by rw [bne_iff_ne]; omega
          have HR := Lib.hid (HB1.out hl)
          clear hl
          go_wp2
          go_quiet (fail)
          go_wp2
          go_ret
          exact ⟨by rw [HR.out]; rfl, belowN hB _⟩
    · have h1' : ¬ (k : Int) < (xs.length : Int) := by omega
      have HR := Lib.hid (HALLF.out (by have e := HA.out; rwa [List.take_of_length_le (by omega)] at e) (by have e := HU.out; rwa [List.take_of_length_le (by omega)] at e))
      go_wp2
      go_ret
      exact ⟨by rw [HR.out]; rfl, hB⟩
end Go.Proofs.YtbmdoekfbkpaeaaGreatDoor

namespace Go.Proofs.YtbmdoekfbkpaeaaGreatDoor
open Go.RowKit

/-- What the objects of a tree are. -/
structure SumsT (k1 : List UInt8) (o : List Snp) (rs : List (List UInt8)) : Prop where
  len : o.length ≤ 70000
  fit : fit5 (namesR o) = true
  top : k1 ∈ namesR o
  each : ∀ y ∈ o, ∃ n, FitN n ∧ y = (keyN n, writeN n) ∧ (∀ k ∈ kidsN n, k ∈ namesR o) ∧ (keyN n = k1 → n.kind ≠ 3 → ClashP rs)
theorem Ready.sums {pc : List UInt8 → List (List UInt8)} {items : List Itm} (h : Ready pc items) : SumsT (keyN (dirN pc items 9 [])) (dirO pc items 9 [] []) (rawsN (nodesD pc items 9 [])) := by
  have hA := h.among 9 [] [] (.inl rfl) rfl ⟨rfl, by simp [namesR]⟩
  have hns := nodesD_fit h 9 []
  refine ⟨Nat.le_trans hA.len h.keys_len, hA.1, ?_, ?_⟩
  · rw [dirO_fold]
    exact fold_key _ rfl hns _ (nodesD_top 9 [])
  · rw [dirO_fold]
    intro y hy
    rcases fold_mem _ hy with ⟨n, hn, e⟩ | hy
    · refine ⟨n, hns n hn, e, fun k hk => ?_, fun hk hkind => ?_⟩
      · obtain ⟨q, hq, rfl⟩ := nodesD_kids 9 [] hn hk
        exact fold_key _ rfl hns q hq
      · refine ⟨writeN n, List.mem_map.2 ⟨n, hn, rfl⟩, writeN (dirN pc items 9 []), List.mem_map.2 ⟨_, nodesD_top 9 [], rfl⟩, fun hw => ?_, ?_⟩
        · have := write_inj (hns n hn) (h.dir 9 []) hw
          rw [this] at hkind
          exact hkind rfl
        · rw [← keyN_eq (hns n hn), ← keyN_eq (h.dir 9 []), hk]
    · cases hy
theorem fit_small {n : Nod} (h : FitN n) : n.parts.length + n.ents.length ≤ 1100000 := by
  rcases h with h | h | h
  · rw [h.2.2.2.1, h.2.2.2.2]; simp
  · rw [h.2.2.1]; have := h.2.2.2.len; simp; omega
  · rw [h.2.2.1]; have := h.2.2.2.len; simp; omega
theorem kids_len {n : Nod} (h : FitN n) : (kidsN n).length ≤ 2000 := by
  have h1 := kidsN_len n
  rcases h with h | h | h
  · rw [h.2.2.2.1, h.2.2.2.2] at h1; simp only [List.length_nil] at h1; omega
  · rw [h.2.2.1] at h1; have := h.2.2.2.len; simp only [List.length_nil] at h1; omega
  · rw [h.2.2.1] at h1; have := h.2.2.2.len; simp only [List.length_nil] at h1; omega

set_option maxHeartbeats 16000000 in
set_option maxRecDepth 100000 in
theorem sums12_walk (x y z : Int) (v : Value) (l : List Itm) (w : World) (hM : Mx w) (hT : TzT w) (hr : ItRow w v l) (hd : ∀ i ∈ l, i.2.2.2.length ≤ 140737488355328) :
    Calls Tryz.prog 4 #[.agg #[.int .i64 x, .int .i64 y, .int .i64 z], v] w fun e w' => e = .returned (.bool true) ∧ Below w.heap.size w w' := by
  obtain ⟨w1, hw1, HB1, HC1⟩ : ∃ w1, w1 = w.alloc (.cells #[.int .i64 x, .int .i64 y, .int .i64 z] 23) ∧ Hid (Below w.heap.size w w1) ∧ Hid (w1.heap[w.heap.size]? = some (.cells #[.int .i64 x, .int .i64 y, .int .i64 z] 23 (0, 0))) :=
    ⟨_, rfl, Lib.hid ((Below.refl _ _).alloc (Nat.le_refl _) _), Lib.hid (heap_alloc_new _ _)⟩
  obtain ⟨is, his, hq0, hq1, hq2⟩ := info_parts infoStr
  have C1 := few12_walk x y z v l w1 (hr.below HB1.out) hd
  have HR := Lib.hid hr
  have HM := Lib.hid hM
  have HT := Lib.hid hT
  obtain ⟨a, c, rfl, -⟩ := hr
  have c0 := heap_cell HC1.out (j := 0) (v := .int .i64 x) rfl
  have c1 := heap_cell HC1.out (j := 1) (v := .int .i64 y) rfl
  have c2 := heap_cell HC1.out (j := 2) (v := .int .i64 z) rfl
  clear hM hT hd
  go_enter Tryz.func4, Tryz.ntmps4
  go_upto_region 1 with fail
  rw [← hw1]
  clear hw1
  go_wp2_with fail
  refine C1.mono ?_
  rintro e w2 ⟨f, rfl, hf, hb2⟩
  have HB2 := Lib.hid (below_chain HB1.out hb2 HB1.out.size)
  have hC2 := (hb2.block _ (heap_lt HC1.out)).trans HC1.out
  have HF := Lib.hid hf
  clear C1 c0 c1 c2 hb2 hf
  cases f with
  | false => (have CA := awake12b_walk w2 (HM.out.below HB2.out) (HT.out.below HB2.out); go_wp2_with fail; refine CA.mono ?_; rintro e wy ⟨rfl, hby⟩; have hBy := below_chain HB2.out hby (Below.size HB2.out); go_wp2; go_ret; exact ⟨rfl, hBy⟩)
  | true =>
  obtain ⟨⟨x', k, z', hfc, rfl, rfl, rfl, hrd⟩, -⟩ := HF.out (by first | rfl | trivial)
  have CP := build12_walk x' k (2 ^ k) z' c a l w2 hfc rfl hrd (HR.out.below HB2.out) (HM.out.below HB2.out) (HT.out.below HB2.out) hrd.fit.len
  have CRL := fun (W : World) (hb : Below w.heap.size w W) => rraws12_walk x' k (2 ^ k) z' (.slice a l.length c) l W hfc rfl hrd (HR.out.below hb) (by have := hrd.nodes_len; omega)
  have HO := Lib.hid hrd.sums
  have HRS := Lib.hid (rawsN_small (nodesD (piecesC x' k z') l 9 []))
  have hrl : (rawsN (nodesD (piecesC x' k z') l 9 [])).length ≤ 70000 := by rw [rawsN_len]; exact hrd.nodes_len
  have HC2 := Lib.hid hC2
  have c0 := heap_cell hC2 (j := 0) (v := .int .i64 (x' : Nat)) rfl
  have c1 := heap_cell hC2 (j := 1) (v := .int .i64 ((2 ^ k : Nat) : Int)) rfl
  have c2 := heap_cell hC2 (j := 2) (v := .int .i64 (z' : Nat)) rfl
  clear hfc hrd hC2 HF
  generalize keyN (dirN (piecesC x' k z') l 9 []) = k1 at *
  generalize rawsN (nodesD (piecesC x' k z') l 9 []) = rs at *
  generalize dirO (piecesC x' k z') l 9 [] [] = oo at *
  generalize 2 ^ k = y at *
  go_wp2_with fail
  refine CP.mono ?_
  rintro e w4 ⟨v4, rfl, hr4, hb4⟩
  have HB4 := Lib.hid (below_chain HB2.out hb4 HB2.out.size)
  have HC4 := Lib.hid ((hb4.block _ (heap_lt HC2.out)).trans HC2.out)
  have HR4 := Lib.hid hr4
  obtain ⟨a4, n4, rfl, -, -, hx4⟩ := hr4
  have HX4 := Lib.hid hx4
  have hol := HO.out.len
  clear CP c0 c1 c2 hb4 hx4
  go_wp2
  go_loopw [7, 29] (fun av iv wr => ∃ (q : Nat) (ac : Option Addr) (acap : Nat), q ≤ oo.length ∧ iv = .int .i64 q ∧ av = .slice ac q acap ∧ Hid (wr.ownsRow w4.heap.size 9 1 (.slice ac q acap) q ((namesR (oo.take q)).map S)) ∧ Hid (Below w4.heap.size w4 wr)) (fun _ iv _ => oo.length - (intOf iv).toNat)
  case atStart => exact ⟨0, none, 0, Nat.zero_le _, rfl, rfl, Lib.hid (World.ownsRow_nil _ _ _ _), Lib.hid (Below.refl _ _)⟩
  case round =>
    obtain ⟨q, ac, acap, hq, rfl, rfl, HOW, HB⟩ := hrel
    by_cases h1 : q < oo.length
    · have h1' : (q : Int) < (oo.length : Int) := by omega
      have hx := HX4.out
      rcases hx with hx | ⟨b, o, rfl, hx⟩
      · exfalso; rw [hx] at h1; simp at h1
      obtain ⟨hx1, hx2⟩ := snp_cells hx h1
      have m1 := cell_below HB.out hx1
      have m2 := cell_below HB.out hx2
      have HNT := Lib.hid (show (namesR (oo.take (q + 1))).map S = (namesR (oo.take q)).map S ++ [S oo[q].1] by rw [List.take_succ_eq_append_getElem h1]; unfold namesR; rw [List.map_append, List.map_append]; rfl)
      clear hx hx1 hx2
      generalize oo[q] = yy at *
      obtain ⟨p, r⟩ := yy
      simp only at m1 m2
      obtain ⟨wb, hwb, hbb, r0, r1⟩ : ∃ wb, wb = wr.alloc (.cells #[S p, S r] 34) ∧ Below wr.heap.size wr wb ∧ wb.cell? ⟨wr.heap.size, 0, none⟩ = some (S p) ∧ wb.cell? ⟨wr.heap.size, 1, none⟩ = some (S r) :=
        ⟨_, rfl, (Below.refl _ _).alloc (Nat.le_refl _) _, cell_new wr #[S p, S r] 34 0 rfl, cell_new wr #[S p, S r] 34 1 rfl⟩
      have hown2 := own_on HOW.out hbb
      have HBB := Lib.hid (below_chain HB.out hbb HB.out.size)
      have HSZ := Lib.hid (show w4.heap.size ≤ wb.heap.size from HBB.out.size)
      clear hbb
      go_upto_region 8 with fail
      rw [← hwb]
      clear hwb m1 m2
      go_wp2_with (at_builtin; refine wpList_append_own _ rfl _ _ 32 rfl w4.heap.size 9 is (.string ⟨#[]⟩) 1 16 Tryz.underlying32 his hq0 hq1 hq2 rfl (by decide) _ _ _ rfl (hown2.alloc _) ⟨wb.heap.size, 0, none⟩ 1 1 [S p] rfl rfl (new_cell_at rfl _ _) (s_one _) (by unfold maxLen; omega) (by omega) (by rw [World.size_alloc]; have := HSZ.out; omega) ?_)
      intro v' w3 hown' hgrow _
      obtain ⟨g', cap', rfl⟩ := ownsRow_succ hown'
      have HB3 := Lib.hid ((HBB.out.alloc HBB.out.size _).grown hgrow (by simp; have := HSZ.out; omega) (fun j hj => (hown2.lt j hj).1))
      have HO3 := Lib.hid hown'
      clear hown' hgrow hown2
      go_wp2
      go_roundw
      case rel => exact ⟨q + 1, some ⟨g', 0, none⟩, cap', by omega, by go_num, rfl, by rw [HNT.out]; exact HO3, HB3⟩
      case measure => simp [intOf]; omega
    · have h1' : ¬ (q : Int) < (oo.length : Int) := by omega
      obtain rfl : q = oo.length := by omega
      rw [List.take_of_length_le (Nat.le_refl _)] at HOW
      have hnl : (namesR oo).length ≤ 70000 := by rw [namesR_len]; exact hol
      have HAL := Lib.hid (show StrRow wr (.slice ac oo.length acap) (namesR oo) from by
        have h : wr.ownsRow w4.heap.size 9 1 (.slice ac oo.length acap) (namesR oo).length ((namesR oo).map S) := by rw [namesR_len]; exact HOW.out
        exact StrRow.of_owns h)
      obtain ⟨wA, hwA⟩ : ∃ wA, wA = wr := ⟨_, rfl⟩
      rw [← hwA] at HAL HB HOW ⊢
      clear hwA HOW
      have HX0 := HB
      have HBA := Lib.hid (show Below w.heap.size w wA from below_chain HB4.out HB.out HB4.out.size)
      have CF := rfit5_walk (.slice ac oo.length acap) (namesR oo) wA HAL.out (by omega)
      rw [HO.out.fit] at CF
      go_wp2_with fail
      refine CF.mono ?_
      rintro e w5 ⟨rfl, hb5⟩
      have HB5 := Lib.hid (below_chain HBA.out hb5 HBA.out.size)
      have HA5 := Lib.hid (HAL.out.below hb5)
      have CH := rhas_walk (.slice ac oo.length acap) (namesR oo) k1 w5 HA5.out (by omega)
      rw [decide_eq_true HO.out.top] at CH
      clear CF
      go_wp2_with fail
      refine CH.mono ?_
      rintro e w6 ⟨rfl, hb6⟩
      have HB6 := Lib.hid (below_chain HB5.out hb6 HB5.out.size)
      have HA6 := Lib.hid (HA5.out.below hb6)
      have HX6 := Lib.hid (show Below w4.heap.size w4 w6 from below_chain (below_chain HX0.out hb5 HX0.out.size) hb6 (Nat.le_trans HX0.out.size hb5.size))
      clear CH hb6 hb5
      go_wp2
      go_loopw [50] (fun iv wr => ∃ q : Nat, q ≤ oo.length ∧ iv = .int .i64 q ∧ Hid (Below w6.heap.size w6 wr)) (fun iv _ => oo.length - (intOf iv).toNat)
      case atStart => exact ⟨0, Nat.zero_le _, rfl, Lib.hid (Below.refl _ _)⟩
      case round =>
        obtain ⟨q, hq, rfl, HQ⟩ := hrel
        have HXQ := Lib.hid (show Below w4.heap.size w4 wr from below_chain HX6.out HQ.out HX6.out.size)
        have HBQ := Lib.hid (show Below w.heap.size w wr from below_chain HB6.out HQ.out HB6.out.size)
        have HAQ := Lib.hid (HA6.out.below HQ.out)
        by_cases h1 : q < oo.length
        · have h1' : (q : Int) < (oo.length : Int) := by omega
          have hx := HX4.out
          rcases hx with hx | ⟨b, o, rfl, hx⟩
          · exfalso; rw [hx] at h1; simp at h1
          obtain ⟨hx1, hx2⟩ := snp_cells hx h1
          have m1 := cell_below HXQ.out hx1
          have m2 := cell_below HXQ.out hx2
          obtain ⟨n, hn, hyn, hkids, hcl⟩ := HO.out.each oo[q] (List.getElem_mem h1)
          have HKIDS := Lib.hid hkids
          have HCL := Lib.hid hcl
          have HN := Lib.hid hn
          rw [hyn] at m1 m2
          simp only at m1 m2
          have hsha := (keyN_eq hn).symm
          have hread := read_write hn
          have hrl2 := writeN_len (n := n)
          clear hx hx1 hx2 hkids hcl hn hyn
          generalize writeN n = rn at *
          generalize keyN n = kn at *
          obtain ⟨wb, hwb, hbb, r0, r1⟩ : ∃ wb, wb = wr.alloc (.cells #[S kn, S rn] 34) ∧ Below wr.heap.size wr wb ∧ wb.cell? ⟨wr.heap.size, 0, none⟩ = some (S kn) ∧ wb.cell? ⟨wr.heap.size, 1, none⟩ = some (S rn) :=
            ⟨_, rfl, (Below.refl _ _).alloc (Nat.le_refl _) _, cell_new wr #[S kn, S rn] 34 0 rfl, cell_new wr #[S kn, S rn] 34 1 rfl⟩
          have CR := rread11_walk rn wb (by omega)
          unfold ReadPost at CR
          rw [hread] at CR
          have HBB := Lib.hid hbb
          clear hread hbb
          go_upto_region 15 with fail
          rw [← hwb]
          clear hwb m1 m2
          go_wp2_with fail
          refine CR.mono ?_
          rintro e w7 ⟨vp, ve, rfl, hnr, hb7⟩
          have HNR := Lib.hid hnr
          obtain ⟨pa, pcap, rfl⟩ := row_slice hnr.parts
          obtain ⟨ea, ecap, rfl⟩ := row_slice hnr.ents
          have q0 := cell_below hb7 r0
          have q1 := cell_below hb7 r1
          have HB7 := Lib.hid (show Below wr.heap.size wr w7 from below_chain HBB.out hb7 HBB.out.size)
          clear CR r0 r1 hb7 hnr
          obtain ⟨wc, hwc, hbc, hz⟩ : ∃ wc, wc = w7.alloc (.cells #[.int .i64 n.kind, S n.data, .slice pa n.parts.length pcap, .slice ea n.ents.length ecap] 40) ∧ Below w7.heap.size w7 wc ∧ wc.heap[w7.heap.size]? = some (.cells #[.int .i64 n.kind, S n.data, .slice pa n.parts.length pcap, .slice ea n.ents.length ecap] 40 (0, 0)) :=
            ⟨_, rfl, (Below.refl _ _).alloc (Nat.le_refl _) _, heap_alloc_new _ _⟩
          have HBC := Lib.hid (show Below wr.heap.size wr wc from below_chain HB7.out hbc HB7.out.size)
          have HNC := Lib.hid (HNR.out.below hbc)
          have HZ := Lib.hid hz
          go_upto_region 16 with fail
          rw [← hwc]
          clear hwc
          have l0 := LaterOf.cell (cell_below hbc q0)
          have l1 := LaterOf.cell (cell_below hbc q1)
          have CS := fun lw : LaterOf wc => rsha_walk rn lw.world (by omega)
          rw [hsha] at CS
          have hkk : (kn != kn) = false := by simp
          clear hbc q0 q1 hz
          go_wp2_with fail
          (refine wp_region_later (by kernel_rfl) (by kernel_rfl) ?_; (repeat (go_big_quiet_step ((go_at_call 16; exact LaterOf.call _ (CS _))))); refine wpQuiet_nil ?_; intro _ hw1; obtain ⟨lw, hw2⟩ := hw1; subst hw2)
          obtain ⟨wd, hwd, HBD, r0, r1, hzd, HND⟩ : ∃ wd, wd = lw.world ∧ Hid (Below wr.heap.size wr wd) ∧ wd.cell? ⟨wr.heap.size, 0, none⟩ = some (S kn) ∧ wd.cell? ⟨wr.heap.size, 1, none⟩ = some (S rn) ∧ wd.heap[w7.heap.size]? = some (.cells #[.int .i64 n.kind, S n.data, .slice pa n.parts.length pcap, .slice ea n.ents.length ecap] 40 (0, 0)) ∧ Hid (NodRow wd n (.slice pa n.parts.length pcap) (.slice ea n.ents.length ecap)) :=
            ⟨_, rfl, Lib.hid (below_chain HBC.out lw.below HBC.out.size), l0 lw, l1 lw, (lw.below.block _ (heap_lt HZ.out)).trans HZ.out, Lib.hid (HNC.out.below lw.below)⟩
          rw [← hwd]
          clear hwd l0 l1 CS hsha hkk
          obtain ⟨⟨z0, z1, z2, z3⟩, -, -⟩ := box4 hzd
          have HBDW := Lib.hid (show Below w.heap.size w wd from below_chain HBQ.out HBD.out HBQ.out.size)
          go_upto_region 18 with fail
          go_cut [78] from 79 to 98 (fun cv wz => ∃ cb : Bool, cv = .bool cb ∧ wd = wz ∧ (cb = true → kn = k1 ∧ n.kind ≠ 3))
          case first =>
            by_cases hk1 : kn = k1
            · have hk1' : (kn == k1) = true := by rw [beq_iff_eq]; exact hk1
              by_cases hk3 : n.kind = 3
              · have hk3' : (n.kind != 3) = false := by simp [hk3]
                have HK := Lib.hid hk1
                clear hk1 hk3
                go_wp2
                go_meet
                case rel => exact ⟨false, rfl, rfl, fun h => (by cases h)⟩
              · have hk3' : (n.kind != 3) = true := by simp [hk3]
                have HK := Lib.hid (And.intro hk1 hk3)
                clear hk1 hk3
                go_wp2
                go_meet
                case rel => exact ⟨true, rfl, rfl, fun _ => HK.out⟩
            · have hk1' : (kn == k1) = false := by rw [beq_eq_false_iff_ne]; exact hk1
              go_wp2
              go_meet
              case rel => exact ⟨false, rfl, rfl, fun h => (by cases h)⟩
          case rest =>
          obtain ⟨cb, rfl, rfl, hcb⟩ := hcut
          cases cb with
          | true =>
            have HCC := Lib.hid (HCL.out (hcb rfl).1 (hcb rfl).2)
            have hC4 := (HXQ.out.block _ (heap_lt HC4.out)).trans HC4.out
            have hCd := (HBD.out.block _ (heap_lt hC4)).trans hC4
            have c0 := heap_cell hCd (j := 0) (v := .int .i64 (x' : Nat)) rfl
            have c1 := heap_cell hCd (j := 1) (v := .int .i64 (y : Nat)) rfl
            have c2 := heap_cell hCd (j := 2) (v := .int .i64 (z' : Nat)) rfl
            have CRD := CRL wd HBDW.out
            clear hcb hC4 hCd CRL r0 r1 z0 z1 z2 z3 hzd
            go_wp2_with fail
            refine CRD.mono ?_
            rintro e w8 ⟨v8, rfl, ho8, hb8⟩
            have HB8 := Lib.hid (below_chain HBDW.out hb8 HBDW.out.size)
            have CC := rclash12_walk v8 rs w8 (StrRow.of_owns ho8) (by omega) HRS.out
            obtain ⟨g8, cap8, hv8⟩ : ∃ g8 cap8, v8 = .slice g8 rs.length cap8 := by
              rcases ho8.2 with ⟨h, h0⟩ | ⟨g, cap, cur, h, _⟩
              · exact ⟨none, 0, by rw [h, h0]⟩
              · exact ⟨_, _, h⟩
            subst hv8
            clear CRD c0 c1 c2 hb8 ho8
            go_wp2_with fail
            refine CC.mono ?_
            rintro e w9 ⟨cc, rfl, hcc, hb9⟩
            have HB9 := Lib.hid (below_chain HB8.out hb9 HB8.out.size)
            obtain rfl : cc = true := hcc.2 HCC.out
            clear CC hb9 hcc
            have CA := awake12b_walk w9 (HM.out.below HB9.out) (HT.out.below HB9.out)
            go_wp2_with fail
            refine CA.mono ?_
            rintro e wy ⟨rfl, hby⟩
            have hBy := below_chain HB9.out hby (Below.size HB9.out)
            go_wp2
            go_ret
            exact ⟨rfl, hBy⟩
          | false =>
            have CK : Calls Tryz.prog 19 #[.agg #[.int .i64 n.kind, S n.data, .slice pa n.parts.length pcap, .slice ea n.ents.length ecap]] wd _ := rkids_walk (.slice pa n.parts.length pcap) (.slice ea n.ents.length ecap) n wd HND.out (fit_small HN.out)
            clear hcb r0 r1
            go_wp2_with fail
            refine CK.mono ?_
            rintro e w8 ⟨v8, rfl, hr8, hb8⟩
            have HKL := Lib.hid (kids_len HN.out)
            have hkl := HKL.out
            generalize kidsN n = ks at *
            have HB8 := Lib.hid (show Below wr.heap.size wr w8 from below_chain HBD.out hb8 HBD.out.size)
            obtain ⟨a8, n8, rfl, -, -, hx8⟩ := hr8
            have HX8 := Lib.hid hx8
            clear CK hb8 hx8 z0 z1 z2 z3 hzd
            go_wp2
            go_loopw [89] (fun iv wt => ∃ u : Nat, u ≤ ks.length ∧ iv = .int .i64 u ∧ Hid (Below w8.heap.size w8 wt)) (fun iv _ => ks.length - (intOf iv).toNat)
            case atStart => exact ⟨0, Nat.zero_le _, rfl, Lib.hid (Below.refl _ _)⟩
            case round =>
              obtain ⟨wt, rfl⟩ : ∃ wt, wt = wr := ⟨_, rfl⟩
              obtain ⟨u, hu, rfl, HU⟩ := hrel
              by_cases h2 : u < ks.length
              · have h2' : (u : Int) < (ks.length : Int) := by omega
                have hx := HX8.out
                rcases hx with hx | ⟨g, o2, rfl, hx⟩
                · exfalso; rw [hx] at h2; simp at h2
                have m1 := cell_below HU.out (str_cell hx h2)
                have HIN := Lib.hid (HKIDS.out ks[u] (List.getElem_mem h2))
                have HAT := Lib.hid (HAQ.out.below (below_chain HB8.out HU.out HB8.out.size))
                have CH := rhas_walk (.slice ac oo.length acap) (namesR oo) ks[u] wt HAT.out (by omega)
                rw [decide_eq_true HIN.out] at CH
                clear hx HIN
                generalize ks[u] = kid at *
                go_wp2_with fail
                refine CH.mono ?_
                rintro e w9 ⟨rfl, hb9⟩
                have HB9 := Lib.hid (below_chain HU.out hb9 HU.out.size)
                clear CH hb9
                go_wp2
                go_roundw
                case rel => exact ⟨u + 1, by omega, by go_num, HB9⟩
                case measure => simp [intOf]; omega
              · have h2' : ¬ (u : Int) < (ks.length : Int) := by omega
                have HBE := Lib.hid (show Below w6.heap.size w6 wt from below_chain HQ.out (below_chain HB8.out HU.out HB8.out.size) HQ.out.size)
                go_wp2
                go_roundw
                case rel => exact ⟨q + 1, by omega, by go_num, HBE⟩
                case measure => simp [intOf]; omega
        · have h1' : ¬ (q : Int) < (oo.length : Int) := by omega
          have CA := awake12b_walk wr (HM.out.below HBQ.out) (HT.out.below HBQ.out)
          go_wp2_with fail
          refine CA.mono ?_
          rintro e wy ⟨rfl, hby⟩
          have hBy := below_chain HBQ.out hby (Below.size HBQ.out)
          go_wp2
          go_ret
          exact ⟨rfl, hBy⟩
end Go.Proofs.YtbmdoekfbkpaeaaGreatDoor
