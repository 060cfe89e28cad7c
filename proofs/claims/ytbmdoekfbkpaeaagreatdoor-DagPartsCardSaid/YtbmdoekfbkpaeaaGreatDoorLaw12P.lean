/- DagParts: a directory's objects are among those of the tree that has it; a tree of the same files elsewhere shares them. -/
import Derived.Test.YtbmdoekfbkpaeaaGreatDoorJClash12
import Derived.Test.YtbmdoekfbkpaeaaGreatDoorPartsT
import Derived.Test.YtbmdoekfbkpaeaaGreatDoorJSort12L
import Derived.Test.YtbmdoekfbkpaeaaGreatDoorJFew12
import Derived.Test.YtbmdoekfbkpaeaaGreatDoorObjAt
import Derived.Test.YtbmdoekfbkpaeaaGreatDoorJR11
namespace Go.Proofs.YtbmdoekfbkpaeaaGreatDoor
open Go.RowKit

theorem mT_len (l : List Itm) : (mT l).length = l.length + 1 := by simp [mT]
theorem sizeT_mT (l : List Itm) : sizeT (mT l) = sizeT l := by
  unfold mT
  rw [sizeT_cons]
  simp only [sizeT, List.map_map, List.length_nil, Nat.zero_add]
  rfl
theorem path_mT {l : List Itm} (h : ∀ i ∈ l, i.1.length ≤ 400) : ∀ i ∈ mT l, i.1.length ≤ 1100000 := by
  intro i hi
  rcases List.mem_cons.1 hi with rfl | hi
  · simp
  · obtain ⟨x, hx, rfl⟩ := List.mem_map.1 hi
    have := h x hx
    simp [upI, upQ]; omega
theorem mT_snoc {l : List Itm} {q : Nat} (h : q < l.length) : (mT (l.take (q + 1))).flatMap itC = (mT (l.take q)).flatMap itC ++ itC (upI l[q]) := by
  rw [List.take_succ_eq_append_getElem h]
  unfold mT
  rw [List.map_append, ← List.cons_append, List.flatMap_append]
  simp
theorem same_prm {x y z : Int} {m : List Itm} {a k c : Nat} (hx : x = a) (hy : y = ((2 ^ k : Nat) : Int)) (hz : z = c) (h : Built x y z m) : Ready (piecesC a k c) m := by
  obtain ⟨a2, k2, c2, -, e1, e2, e3, hr⟩ := h
  obtain rfl : a2 = a := by omega
  obtain rfl : c2 = c := by omega
  have hkk : 2 ^ k2 = 2 ^ k := by omega
  obtain rfl : k2 = k := by
    rcases Nat.lt_trichotomy k2 k with h | h | h
    · have := Nat.pow_lt_pow_right (a := 2) (by decide) h; omega
    · exact h
    · have := Nat.pow_lt_pow_right (a := 2) (by decide) h; omega
  exact hr

set_option maxHeartbeats 16000000 in
set_option maxRecDepth 100000 in
theorem parts12_walk (x y z : Int) (v : Value) (l : List Itm) (w : World) (hM : Mx w) (hT : TzT w) (hr : ItRow w v l) (hd : ∀ i ∈ l, i.2.2.2.length ≤ 140737488355328) :
    Calls Tryz.prog 6 #[.agg #[.int .i64 x, .int .i64 y, .int .i64 z], v] w fun e w' => e = .returned (.bool true) ∧ Below w.heap.size w w' := by
  obtain ⟨w1, hw1, HB1, HC1⟩ : ∃ w1, w1 = w.alloc (.cells #[.int .i64 x, .int .i64 y, .int .i64 z] 23) ∧ Hid (Below w.heap.size w w1) ∧ Hid (w1.heap[w.heap.size]? = some (.cells #[.int .i64 x, .int .i64 y, .int .i64 z] 23 (0, 0))) :=
    ⟨_, rfl, Lib.hid ((Below.refl _ _).alloc (Nat.le_refl _) _), Lib.hid (heap_alloc_new _ _)⟩
  obtain ⟨is, his, hq0, hq1, hq2⟩ := info_parts infoStr
  obtain ⟨it0, hit, ht0, ht1, ht2⟩ := info_parts infoIt
  have C1 := few12_walk x y z v l w1 (hr.below HB1.out) hd
  have HR := Lib.hid hr
  have HM := Lib.hid hM
  have HT := Lib.hid hT
  obtain ⟨a, c, rfl, -, -, hx⟩ := hr
  have HX := Lib.hid hx
  have c0 := heap_cell HC1.out (j := 0) (v := .int .i64 x) rfl
  have c1 := heap_cell HC1.out (j := 1) (v := .int .i64 y) rfl
  have c2 := heap_cell HC1.out (j := 2) (v := .int .i64 z) rfl
  clear hM hT hd hx
  by_cases h40 : 40 < l.length
  · have h40' : (40 : Int) < (l.length : Int) := by omega
    go_enter Tryz.func6, Tryz.ntmps6
    go_upto_region 1 with fail
    rw [← hw1]
    clear hw1
    go_wp2_with fail
    refine C1.mono ?_
    rintro e w2 ⟨f, rfl, hf, hb2⟩
    have HB2 := Lib.hid (below_chain HB1.out hb2 HB1.out.size)
    clear C1 c0 c1 c2 hb2 hf
    cases f with
    | false => (have CA := awake12b_walk w2 (HM.out.below HB2.out) (HT.out.below HB2.out); go_wp2_with fail; refine CA.mono ?_; rintro e wy ⟨rfl, hby⟩; have hBy := below_chain HB2.out hby (Below.size HB2.out); go_wp2; go_ret; exact ⟨rfl, hBy⟩)
    | true => (have CA := awake12b_walk w2 (HM.out.below HB2.out) (HT.out.below HB2.out); go_wp2_with fail; refine CA.mono ?_; rintro e wy ⟨rfl, hby⟩; have hBy := below_chain HB2.out hby (Below.size HB2.out); go_wp2; go_ret; exact ⟨rfl, hBy⟩)
  have h40' : ¬ (40 : Int) < (l.length : Int) := by omega
  have hl40 : l.length ≤ 40 := by omega
  clear h40
  go_enter Tryz.func6, Tryz.ntmps6
  go_upto_region 1 with fail
  rw [← hw1]
  clear hw1
  go_wp2_with fail
  refine C1.mono ?_
  rintro e w2 ⟨f, rfl, hf, hb2⟩
  have HB2 := Lib.hid (below_chain HB1.out hb2 HB1.out.size)
  have hC2 := (hb2.block _ (heap_lt HC1.out)).trans HC1.out
  have HF := Lib.hid hf
  clear C1 c0 c1 c2 hb2 hf
  cases f with
  | false => (have CA := awake12b_walk w2 (HM.out.below HB2.out) (HT.out.below HB2.out); go_wp2_with fail; refine CA.mono ?_; rintro e wy ⟨rfl, hby⟩; have hBy := below_chain HB2.out hby (Below.size HB2.out); go_wp2; go_ret; exact ⟨rfl, hBy⟩)
  | true =>
  obtain ⟨⟨x', k, z', hfc, hxe, hye, hze, hrd⟩, -, hsz, hpl⟩ := HF.out (by first | rfl | trivial)
  have HSAME := Lib.hid (fun (h : Built x y z (mT l)) => same_prm hxe hye hze h)
  have HSZ := Lib.hid (show sizeT (mT l) ≤ 1100000 by rw [sizeT_mT]; omega)
  have HPL := Lib.hid (path_mT hpl)
  have HPL0 := Lib.hid hpl
  have CPL := fun (W : World) (hb : Below w.heap.size w W) => build12_walk x' k (2 ^ k) z' c a l W hfc rfl hrd (HR.out.below hb) (HM.out.below hb) (HT.out.below hb) hrd.fit.len
  have CPM := fun (W : World) (hb : Below w.heap.size w W) (g mc : Nat) (hm : Ready (piecesC x' k z') (mT l)) (hmr : ItRow W (.slice (some ⟨g, 0, none⟩) (mT l).length mc) (mT l)) => build12_walk x' k (2 ^ k) z' mc (some ⟨g, 0, none⟩) (mT l) W hfc rfl hm hmr (HM.out.below hb) (HT.out.below hb) hm.fit.len
  have CRL := fun (W : World) (hb : Below w.heap.size w W) => rraws12_walk x' k (2 ^ k) z' (.slice a l.length c) l W hfc rfl hrd (HR.out.below hb) (by have := hrd.nodes_len; omega)
  have CRM := fun (W : World) (g mc : Nat) (hm : Ready (piecesC x' k z') (mT l)) (hmr : ItRow W (.slice (some ⟨g, 0, none⟩) (mT l).length mc) (mT l)) => rraws12_walk x' k (2 ^ k) z' (.slice (some ⟨g, 0, none⟩) (mT l).length mc) (mT l) W hfc rfl hm hmr (by have := hm.nodes_len; omega)
  have HPO := Lib.hid (fun (hm : Ready (piecesC x' k z') (mT l)) (hc : ¬ ClashP (rawsN (nodesD (piecesC x' k z') l 9 []) ++ rawsN (nodesD (piecesC x' k z') (mT l) 9 []))) => parts_up_objs hrd hm hc)
  have HOL := Lib.hid (objs_fit hrd)
  have HOM := Lib.hid (fun (hm : Ready (piecesC x' k z') (mT l)) => objs_fit hm)
  have HLN := Lib.hid (fun (m : List Itm) (hm : Ready (piecesC x' k z') m) => Nat.le_trans (hm.among 9 [] [] (.inl rfl) rfl ⟨rfl, by simp [namesR]⟩).len hm.keys_len)
  have HNL := Lib.hid (fun (m : List Itm) (hm : Ready (piecesC x' k z') m) => (show (rawsN (nodesD (piecesC x' k z') m 9 [])).length ≤ 70000 by rw [rawsN_len]; exact hm.nodes_len))
  have HRD := Lib.hid hrd
  have HRL := Lib.hid (rawsN_small (nodesD (piecesC x' k z') l 9 []))
  have HRM := Lib.hid (rawsN_small (nodesD (piecesC x' k z') (mT l) 9 []))
  have HRP := Lib.hid (rawsN_pos (pc := piecesC x' k z') (items := mT l) 9 [])
  subst hxe
  subst hye
  subst hze
  have HC2 := Lib.hid hC2
  clear hfc hrd HF hsz hpl hC2
  generalize piecesC x' k z' = pc at *
  generalize 2 ^ k = y at *
  obtain ⟨w3, hw3, HB3, HOW3⟩ : ∃ w3, w3 = w2.alloc (.cells #[.string ⟨#[117, 112]⟩, .bool true, .bool false, .string ⟨#[]⟩] 47) ∧ Hid (Below w2.heap.size w2 w3) ∧ Hid (w3.ownsRow w2.heap.size 47 4 (.slice (some ⟨w2.heap.size, 0, none⟩) 1 1) 1 ((mT (l.take 0)).flatMap itC)) :=
    ⟨_, rfl, Lib.hid ((Below.refl _ _).alloc (Nat.le_refl _) _), Lib.hid ⟨rfl, .inr ⟨w2.heap.size, 1, _, rfl, Nat.le_refl _, heap_alloc_new _ _, Nat.le_refl _, by unfold maxLen; omega, rfl, rfl⟩⟩⟩
  go_upto_region 4 with fail
  rw [← hw3]
  clear hw3
  go_wp2
  go_loopw [5, 30] (fun mv iv wr => ∃ (q g cap : Nat), q ≤ l.length ∧ iv = .int .i64 q ∧ mv = .slice (some ⟨g, 0, none⟩) (q + 1) cap ∧ Hid (wr.ownsRow w2.heap.size 47 4 (.slice (some ⟨g, 0, none⟩) (q + 1) cap) (q + 1) ((mT (l.take q)).flatMap itC)) ∧ Hid (Below w2.heap.size w2 wr)) (fun _ iv _ => l.length - (intOf iv).toNat)
  case atStart => exact ⟨0, w2.heap.size, 1, Nat.zero_le _, rfl, rfl, HOW3, HB3⟩
  case round =>
    obtain ⟨q, g, cap, hq, rfl, rfl, HOW, HB⟩ := hrel
    have HBW := Lib.hid (show Below w.heap.size w wr from below_chain HB2.out HB.out HB2.out.size)
    by_cases h1 : q < l.length
    · have h1' : (q : Int) < (l.length : Int) := by omega
      have hx := HX.out
      rcases hx with hx | ⟨b, o, rfl, hx⟩
      · exfalso; rw [hx] at h1; simp at h1
      obtain ⟨m0, m1, m2, m3⟩ := it_cells hx h1
      have e0 := cell_below HBW.out m0
      have e1 := cell_below HBW.out m1
      have e2 := cell_below HBW.out m2
      have e3 := cell_below HBW.out m3
      have HNT := Lib.hid (mT_snoc h1)
      have hpl := HPL0.out l[q] (List.getElem_mem h1)
      clear hx m0 m1 m2 m3
      generalize l[q] = it at *
      obtain ⟨p, isd, ex, dt⟩ := it
      simp only at e0 e1 e2 e3 hpl
      obtain ⟨wb, hwb, hbb, hzb⟩ : ∃ wb, wb = wr.alloc (.cells #[S p, .bool isd, .bool ex, S dt] 47) ∧ Below wr.heap.size wr wb ∧ wb.heap[wr.heap.size]? = some (.cells #[S p, .bool isd, .bool ex, S dt] 47 (0, 0)) :=
        ⟨_, rfl, (Below.refl _ _).alloc (Nat.le_refl _) _, heap_alloc_new _ _⟩
      go_upto_region 7 with fail
      rw [← hwb]
      clear hwb e0 e1 e2 e3
      obtain ⟨⟨r0, r1, r2, r3⟩, ⟨f0, f1, f2, f3⟩, ⟨s0, s1, s2, s3⟩⟩ := box4 hzb
      have hns : ¬ 9223372036854775807 < 3 + p.length := by omega
      obtain ⟨wc, hwc, hbc, hzc⟩ : ∃ wc, wc = wb.setCell ⟨wr.heap.size, 0, none⟩ (.string (({ data := #[117, 112, 47] } : ByteArray) ++ ({ data := p.toArray } : ByteArray))) ∧ Below wr.heap.size wr wc ∧ wc.heap[wr.heap.size]? = some (.cells #[S (upQ p), .bool isd, .bool ex, S dt] 47 (0, 0)) := by
        refine ⟨_, rfl, below_setT hbb (Nat.le_refl _) _ _, ?_⟩
        have := heap_set_cell (o := 0) hzb (.string (({ data := #[117, 112, 47] } : ByteArray) ++ ({ data := p.toArray } : ByteArray)))
        rw [S_app [117, 112, 47] p] at this
        rw [S_app [117, 112, 47] p]
        exact this
      go_upto_region 8 with fail
      rw [← hwc]
      clear hwc r0 r1 r2 r3 f0 f1 f2 f3 s0 s1 s2 s3 hzb hbb
      obtain ⟨⟨r0, r1, r2, r3⟩, -, -⟩ := box4 hzc
      have hown2 := own_on HOW.out hbc
      have HBC := Lib.hid (below_chain HB.out hbc HB.out.size)
      have HSC := Lib.hid (show w2.heap.size ≤ wc.heap.size from HBC.out.size)
      clear hbc hzc
      go_wp2_with (at_builtin; refine wpList_append_own _ rfl _ _ 24 rfl w2.heap.size 47 it0 (.agg zC) 4 40 Tryz.underlying24 hit ht0 ht1 ht2 rfl (by decide) _ _ _ rfl (hown2.alloc _) ⟨wc.heap.size, 0, none⟩ 1 1 [S (upQ p), .bool isd, .bool ex, S dt] rfl rfl (new_cells4 _ _ _ _ _ _) (it4_one (upQ p, isd, ex, dt)) (by unfold maxLen; omega) (by omega) (by rw [World.size_alloc]; have := HSC.out; omega) ?_)
      intro v' w5 hown' hgrow _
      obtain ⟨g', cap', rfl⟩ := ownsRow_succ hown'
      have HB5 := Lib.hid ((HBC.out.alloc HBC.out.size _).grown hgrow (by simp; have := HSC.out; omega) (fun j hj => (hown2.lt j hj).1))
      have HO5 := Lib.hid hown'
      clear hown' hgrow hown2
      go_wp2
      go_roundw
      case rel => exact ⟨q + 1, g', cap', by omega, by go_num, rfl, by rw [HNT.out]; exact HO5, HB5⟩
      case measure => simp [intOf]; omega
    · have h1' : ¬ (q : Int) < (l.length : Int) := by omega
      obtain rfl : q = l.length := by omega
      rw [List.take_of_length_le (Nat.le_refl _)] at HOW
      have HMR := Lib.hid (show ItRow wr (.slice (some ⟨g, 0, none⟩) (mT l).length cap) (mT l) from Row.of_ownsK (f := itC) (K := 4) (base := w2.heap.size) (e := 47) itC_len (by rw [mT_len]; exact HOW.out))
      have hml := mT_len l
      have hCr := (HB.out.block _ (heap_lt HC2.out)).trans HC2.out
      have l0 := LaterOf.cell (heap_cell hCr (j := 0) (v := .int .i64 (x' : Nat)) rfl)
      have l1 := LaterOf.cell (heap_cell hCr (j := 1) (v := .int .i64 (y : Nat)) rfl)
      have l2 := LaterOf.cell (heap_cell hCr (j := 2) (v := .int .i64 (z' : Nat)) rfl)
      have HCR := Lib.hid hCr
      have HML := Lib.hid hml
      rw [hml] at HMR CPM CRM
      clear hml hCr HOW
      go_upto_region 10 with fail
      go_cut [56] from 57 (fun cv wc => ∃ cb : Bool, cv = .bool cb ∧ Hid (Below wr.heap.size wr wc) ∧ Hid (cb = false → Ready pc (mT l) ∧ ¬ ClashP (rawsN (nodesD pc l 9 []) ++ rawsN (nodesD pc (mT l) 9 []))))
      case first =>
        have CRD := fun lw : LaterOf wr => rready12_walk (x' : Nat) (y : Nat) (z' : Nat) (.slice (some ⟨g, 0, none⟩) (mT l).length cap) (mT l) lw.world (by rw [HML.out]; exact HMR.out.below lw.below) (by rw [HML.out]; omega) HSZ.out HPL.out
        rw [HML.out] at CRD
        (refine wp_held (by kernel_rfl) ?_; intro lw)
        (refine wpAnyH_take (i := 0) (v := ?_) rfl (by kernel_rfl) (by kernel_rfl) (by kernel_rfl) (fun _ _ _ h => h) (Or.inl ⟨by rfl, ?_⟩) ⟨_, rfl⟩ ?_; rotate_left; (intro w9 hS9; obtain ⟨p9, hp9⟩ := hS9; subst hp9; go_simp; try with_reducible rfl))
        (refine wpAnyH_take (i := 1) (v := ?_) rfl (by kernel_rfl) (by kernel_rfl) (by kernel_rfl) (fun _ _ _ h => h) (Or.inl ⟨by rfl, ?_⟩) ⟨_, rfl⟩ ?_; rotate_left; (intro w9 hS9; obtain ⟨p9, hp9⟩ := hS9; subst hp9; go_simp; try with_reducible rfl))
        (refine wpAnyH_one (i := 2) (by kernel_rfl) rfl (fun K hK => ?_); go_simp; refine (CRD lw).mono ?_; rintro e wz ⟨rb, rfl, hrb, hb9⟩; (obtain ⟨lw1, rfl⟩ : ∃ p : LaterOf _, wz = p.world := ⟨⟨wz, below_chain lw.below hb9 lw.below.size⟩, rfl⟩); refine hK _ _ ⟨lw1, rfl⟩ ?_; clear hK K)
        cases rb with
        | false =>
          (refine wpAnyH_take (i := 3) (v := ?_) rfl (by kernel_rfl) (by kernel_rfl) (by kernel_rfl) (fun _ _ _ h => h) (Or.inl ⟨by rfl, ?_⟩) ⟨_, rfl⟩ ?_; rotate_left; (intro w9 hS9; obtain ⟨p9, hp9⟩ := hS9; subst hp9; go_simp; try with_reducible rfl))
          (refine wpAnyH_take (i := 4) (v := ?_) rfl (by kernel_rfl) (by kernel_rfl) (by kernel_rfl) (fun _ _ _ h => h) (Or.inl ⟨by rfl, ?_⟩) ⟨_, rfl⟩ ?_; rotate_left; (intro w9 hS9; obtain ⟨p9, hp9⟩ := hS9; subst hp9; go_simp; try with_reducible rfl))
          refine wpAnyH_take (i := 5) (v := undef) rfl (by kernel_rfl) (by kernel_rfl) (by kernel_rfl) (fun _ _ _ h => h) (Or.inr ⟨by rfl, rfl⟩) ⟨_, rfl⟩ ?_
          refine wpAnyH_take (i := 6) (v := undef) rfl (by kernel_rfl) (by kernel_rfl) (by kernel_rfl) (fun _ _ _ h => h) (Or.inr ⟨by rfl, rfl⟩) ⟨_, rfl⟩ ?_
          refine wpAnyH_take (i := 8) (v := undef) rfl (by kernel_rfl) (by kernel_rfl) (by kernel_rfl) (fun _ _ _ h => h) (Or.inr ⟨by rfl, rfl⟩) ⟨_, rfl⟩ ?_
          refine wpAnyH_take (i := 9) (v := undef) rfl (by kernel_rfl) (by kernel_rfl) (by kernel_rfl) (fun _ _ _ h => h) (Or.inr ⟨by rfl, rfl⟩) ⟨_, rfl⟩ ?_
          (refine wpAnyH_one (i := 7) (by kernel_rfl) rfl (fun K hK => ?_); go_simp; refine hK _ _ ⟨_, rfl⟩ ?_; clear hK K)
          (refine wpAnyH_one (i := 10) (by kernel_rfl) rfl (fun K hK => ?_); go_simp; refine hK _ _ ⟨_, rfl⟩ ?_; clear hK K)
          (refine wpAnyH_one (i := 11) (by kernel_rfl) rfl (fun K hK => ?_); go_simp; refine hK _ _ ⟨_, rfl⟩ ?_; clear hK K)
          (refine wpAnyH_one (i := 12) (by kernel_rfl) rfl (fun K hK => ?_); go_simp; refine hK _ _ ⟨_, rfl⟩ ?_; clear hK K)
          (refine wpAnyH_take (i := 13) (v := ?_) rfl (by kernel_rfl) (by kernel_rfl) (by kernel_rfl) (fun _ _ _ h => h) (Or.inl ⟨by rfl, ?_⟩) ⟨_, rfl⟩ ?_; rotate_left; (intro w9 hS9; obtain ⟨p9, hp9⟩ := hS9; subst hp9; go_simp; try with_reducible rfl))
          (refine wpAnyH_done (by kernel_rfl) ?_ _)
          have HB9 := Lib.hid lw1.below
          go_wp2
          go_meet
          case rel => exact ⟨true, rfl, HB9, Lib.hid (fun h => (by cases h))⟩
        | true =>
          have HMF := Lib.hid (HSAME.out (hrb rfl))
          have CL := fun lw : LaterOf wr => CRL lw.world (below_chain HBW.out lw.below HBW.out.size)
          have CM := fun lw : LaterOf wr => CRM lw.world g cap HMF.out (HMR.out.below lw.below)
          have hrl := HNL.out l HRD.out
          have hrm := HNL.out (mT l) HMF.out
          clear CRL CRM CPL CPM
          generalize rawsN (nodesD pc l 9 []) = rl at *
          generalize rawsN (nodesD pc (mT l) 9 []) = rm at *
          (refine wpAnyH_take (i := 3) (v := ?_) rfl (by kernel_rfl) (by kernel_rfl) (by kernel_rfl) (fun _ _ _ h => h) (Or.inl ⟨by rfl, ?_⟩) ⟨_, rfl⟩ ?_; rotate_left; (intro w9 hS9; obtain ⟨p9, hp9⟩ := hS9; subst hp9; go_simp; try with_reducible rfl))
          (refine wpAnyH_take (i := 4) (v := ?_) rfl (by kernel_rfl) (by kernel_rfl) (by kernel_rfl) (fun _ _ _ h => h) (Or.inl ⟨by rfl, ?_⟩) ⟨_, rfl⟩ ?_; rotate_left; (intro w9 hS9; obtain ⟨p9, hp9⟩ := hS9; subst hp9; go_simp; try with_reducible rfl))
          (refine wpAnyH_take (i := 5) (v := ?_) rfl (by kernel_rfl) (by kernel_rfl) (by kernel_rfl) (fun _ _ _ h => h) (Or.inl ⟨by rfl, ?_⟩) ⟨_, rfl⟩ ?_; rotate_left; (intro w9 hS9; obtain ⟨p9, hp9⟩ := hS9; subst hp9; go_simp; try with_reducible rfl))
          (refine wpAnyH_take (i := 6) (v := ?_) rfl (by kernel_rfl) (by kernel_rfl) (by kernel_rfl) (fun _ _ _ h => h) (Or.inl ⟨by rfl, ?_⟩) ⟨_, rfl⟩ ?_; rotate_left; (intro w9 hS9; obtain ⟨p9, hp9⟩ := hS9; subst hp9; go_simp; try with_reducible rfl))
          (refine wpAnyH_take (i := 8) (v := ?_) rfl (by kernel_rfl) (by kernel_rfl) (by kernel_rfl) (fun _ _ _ h => h) (Or.inl ⟨by rfl, ?_⟩) ⟨_, rfl⟩ ?_; rotate_left; (intro w9 hS9; obtain ⟨p9, hp9⟩ := hS9; subst hp9; go_simp; try with_reducible rfl))
          (refine wpAnyH_take (i := 9) (v := ?_) rfl (by kernel_rfl) (by kernel_rfl) (by kernel_rfl) (fun _ _ _ h => h) (Or.inl ⟨by rfl, ?_⟩) ⟨_, rfl⟩ ?_; rotate_left; (intro w9 hS9; obtain ⟨p9, hp9⟩ := hS9; subst hp9; go_simp; try with_reducible rfl))
          (refine wpAnyH_one (i := 7) (by kernel_rfl) rfl (fun K hK => ?_); go_simp; refine (CL lw1).mono ?_; rintro e wz ⟨v1, rfl, ho1, hb1⟩; (obtain ⟨lw2, rfl⟩ : ∃ p : LaterOf _, wz = p.world := ⟨⟨wz, below_chain lw1.below hb1 lw1.below.size⟩, rfl⟩); refine hK _ _ ⟨lw2, rfl⟩ ?_; clear hK K)
          (refine wpAnyH_one (i := 10) (by kernel_rfl) rfl (fun K hK => ?_); go_simp; refine (CM lw2).mono ?_; rintro e wz ⟨v2, rfl, ho2, hb2⟩; (obtain ⟨lw3, rfl⟩ : ∃ p : LaterOf _, wz = p.world := ⟨⟨wz, below_chain lw2.below hb2 lw2.below.size⟩, rfl⟩); refine hK _ _ ⟨lw3, rfl⟩ ?_; clear hK K)
          replace ho1 := own_base (own_on ho1 hb2) lw1.below.size
          replace ho2 := own_base ho2 lw2.below.size
          obtain ⟨g2, cap2, rfl⟩ : ∃ g2 cap2, v2 = .slice (some ⟨g2, 0, none⟩) rm.length cap2 := by
            rcases ho2.2 with ⟨h, h0⟩ | ⟨g, cap, cur, h, _⟩
            · exfalso; have := HRP.out; omega
            · exact ⟨g, cap, h⟩
          refine wpAnyH_one (i := 11) (by kernel_rfl) rfl (fun K hK => ?_)
          rw [if_pos (by rfl)]
          refine wp_append_own _ (.tmp 50) (.tmp 53) 32 rfl wr.heap.size 9 is (.string ⟨#[]⟩) 1 16 Tryz.underlying32 his hq0 hq1 hq2 rfl (by decide) v1 rl.length (rl.map S) rfl ho1 ⟨g2, 0, none⟩ rm.length cap2 (rm.map S) rfl (by simp) (ho2.cells rfl) (by intro u hu; obtain ⟨x, _, rfl⟩ := List.mem_map.1 hu; rfl) (by unfold maxLen; omega) (by omega) lw3.below.size ?_
          intro v' w7 hown' hgrow _
          have ho3 : w7.ownsRow wr.heap.size 9 1 v' (rl ++ rm).length ((rl ++ rm).map S) := by rw [List.length_append, List.map_append]; exact hown'
          obtain ⟨lw4, rfl⟩ : ∃ p : LaterOf wr, w7 = p.world := ⟨⟨w7, lw3.below.grown hgrow lw3.below.size (fun k hk => (ho1.lt k hk).1)⟩, rfl⟩
          have CC := rclash12_walk v' (rl ++ rm) lw4.world (StrRow.of_owns ho3) (by rw [List.length_append]; omega) (by intro x hx; exact (List.mem_append.1 hx).elim (HRL.out x) (HRM.out x))
          clear hown' hgrow ho1 ho2 ho3
          refine hK _ _ ⟨lw4, rfl⟩ ?_
          clear hK K
          (refine wpAnyH_one (i := 12) (by kernel_rfl) rfl (fun K hK => ?_); go_simp; refine (CC).mono ?_; rintro e wz ⟨cb, rfl, hcb, hb8⟩; (obtain ⟨lw5, rfl⟩ : ∃ p : LaterOf _, wz = p.world := ⟨⟨wz, below_chain lw4.below hb8 lw4.below.size⟩, rfl⟩); refine hK _ _ ⟨lw5, rfl⟩ ?_; clear hK K)
          clear CC hb8
          (refine wpAnyH_take (i := 13) (v := ?_) rfl (by kernel_rfl) (by kernel_rfl) (by kernel_rfl) (fun _ _ _ h => h) (Or.inl ⟨by rfl, ?_⟩) ⟨_, rfl⟩ ?_; rotate_left; (intro w9 hS9; obtain ⟨p9, hp9⟩ := hS9; subst hp9; go_simp; try with_reducible rfl))
          (refine wpAnyH_done (by kernel_rfl) ?_ _)
          have HB9 := Lib.hid lw5.below
          have HEQ := Lib.hid (fun (h : cb = false) => (show Ready pc (mT l) ∧ ¬ ClashP (rl ++ rm) from ⟨HMF.out, fun hp => by have := hcb.2 hp; rw [h] at this; cases this⟩))
          clear hcb
          go_wp2
          go_meet
          case rel => exact ⟨cb, rfl, HB9, HEQ⟩
      case rest =>
      obtain ⟨cb, rfl, HB6, HEQ⟩ := hcut
      obtain ⟨w6, rfl⟩ : ∃ w6, w6 = wc := ⟨_, rfl⟩
      have HBW6 := Lib.hid (show Below w.heap.size w w6 from below_chain HBW.out HB6.out HBW.out.size)
      clear l0 l1 l2 CRL CRM
      cases cb with
      | true => (have CA := awake12b_walk w6 (HM.out.below HBW6.out) (HT.out.below HBW6.out); go_wp2_with fail; refine CA.mono ?_; rintro e wy ⟨rfl, hby⟩; have hBy := below_chain HBW6.out hby (Below.size HBW6.out); go_wp2; go_ret; exact ⟨rfl, hBy⟩)
      | false =>
      obtain ⟨hmr, hnc⟩ := HEQ.out rfl
      have HMR6 := Lib.hid (HMR.out.below HB6.out)
      obtain ⟨hp1, hp2, hp3⟩ := HPO.out hmr hnc
      have HP1 := Lib.hid hp1
      have HP2 := Lib.hid hp2
      have HP3 := Lib.hid hp3
      have HFM := Lib.hid (fit5_up12 (HOM.out hmr))
      have hbl := HLN.out (mT l) hmr
      have hal := HLN.out l HRD.out
      have hC6 := (HB6.out.block _ (heap_lt HCR.out)).trans HCR.out
      have HC6 := Lib.hid hC6
      have CPL6 := CPL w6 HBW6.out
      have CPM6 := fun (W : World) (hb : Below w6.heap.size w6 W) => CPM W (below_chain HBW6.out hb HBW6.out.size) g cap hmr (HMR6.out.below hb)
      clear hp1 hp2 hp3 hmr hnc HEQ CPL CPM HPO HOM HLN HNL HRD HSAME HSZ HPL HRL HRM HRP
      generalize keyN (dirN pc l 9 []) = k1 at *
      generalize keyN (dirN pc (mT l) 9 []) = k2 at *
      generalize dirO pc l 9 [] [] = oa at *
      generalize dirO pc (mT l) 9 [] [] = ob at *
      have c0 := heap_cell hC6 (j := 0) (v := .int .i64 (x' : Nat)) rfl
      have c1 := heap_cell hC6 (j := 1) (v := .int .i64 (y : Nat)) rfl
      have c2 := heap_cell hC6 (j := 2) (v := .int .i64 (z' : Nat)) rfl
      clear hC6
      go_wp2_with fail
      refine CPL6.mono ?_
      rintro e w7 ⟨va, rfl, hra, hb7⟩
      have HRA := Lib.hid hra
      have HB7 := Lib.hid hb7
      have hC7 := (hb7.block _ (heap_lt HC6.out)).trans HC6.out
      obtain ⟨aa, ac, rfl⟩ := row_slice hra
      have CPM7 := CPM6 w7 hb7
      clear CPL6 CPM6 c0 c1 c2 hb7 hra
      have c0 := heap_cell hC7 (j := 0) (v := .int .i64 (x' : Nat)) rfl
      have c1 := heap_cell hC7 (j := 1) (v := .int .i64 (y : Nat)) rfl
      have c2 := heap_cell hC7 (j := 2) (v := .int .i64 (z' : Nat)) rfl
      clear hC7
      go_wp2_with fail
      refine CPM7.mono ?_
      rintro e w8 ⟨vb, rfl, hrb, hb8⟩
      have HRB := Lib.hid hrb
      have HRA8 := Lib.hid (HRA.out.below hb8)
      have HB8 := Lib.hid (show Below w.heap.size w w8 from below_chain HBW6.out (below_chain HB7.out hb8 HB7.out.size) HBW6.out.size)
      obtain ⟨ba, bc, rfl⟩ := row_slice hrb
      obtain ⟨_, _, hva, _, _, hxa⟩ := HRA8.out
      cases hva
      have HXA := Lib.hid hxa
      clear CPM7 c0 c1 c2 hb8 hrb hxa
      go_wp2
      go_loopw [72] (fun iv wt => ∃ q : Nat, q ≤ oa.length ∧ iv = .int .i64 q ∧ Hid (Below w8.heap.size w8 wt)) (fun iv _ => oa.length - (intOf iv).toNat)
      case atStart => exact ⟨0, Nat.zero_le _, rfl, Lib.hid (Below.refl _ _)⟩
      case round =>
        obtain ⟨wt, rfl⟩ : ∃ wt, wt = wr := ⟨_, rfl⟩
        obtain ⟨q, hq, rfl, HQ⟩ := hrel
        by_cases h3 : q < oa.length
        · have h3' : (q : Int) < (oa.length : Int) := by omega
          have hx := HXA.out
          rcases hx with hx | ⟨b, o, rfl, hx⟩
          · exfalso; rw [hx] at h3; simp at h3
          obtain ⟨hx1, hx2⟩ := snp_cells hx h3
          have m1 := cell_below HQ.out hx1
          have m2 := cell_below HQ.out hx2
          have HFD := Lib.hid (HP1.out oa[q] (List.getElem_mem h3))
          clear hx hx1 hx2
          generalize oa[q] = yy at *
          obtain ⟨kn, rn⟩ := yy
          simp only at m1 m2 HFD
          obtain ⟨wb, hwb, hbb, r0, r1⟩ : ∃ wb, wb = wt.alloc (.cells #[S kn, S rn] 34) ∧ Below wt.heap.size wt wb ∧ wb.cell? ⟨wt.heap.size, 0, none⟩ = some (S kn) ∧ wb.cell? ⟨wt.heap.size, 1, none⟩ = some (S rn) :=
            ⟨_, rfl, (Below.refl _ _).alloc (Nat.le_refl _) _, cell_new wt #[S kn, S rn] 34 0 rfl, cell_new wt #[S kn, S rn] 34 1 rfl⟩
          have HBB := Lib.hid (below_chain HQ.out hbb HQ.out.size)
          have CG := pget_walk (.slice ba ob.length bc) ob kn wb (HRB.out.below HBB.out) (by omega) HFM.out
          rw [HFD.out] at CG
          simp only [rootOf, Option.isSome_some] at CG
          go_upto_region 17 with fail
          rw [← hwb]
          clear hwb m1 m2 hbb
          go_wp2_with fail
          refine CG.mono ?_
          rintro e w9 ⟨rfl, hb9⟩
          have q1 := cell_below hb9 r1
          have HB9 := Lib.hid (below_chain HBB.out hb9 HBB.out.size)
          have hrr : (rn != rn) = false := by simp
          clear CG hb9 r0 r1
          go_wp2
          go_roundw
          case rel => exact ⟨q + 1, by omega, by go_num, HB9⟩
          case measure => simp [intOf]; omega
        · have h3' : ¬ (q : Int) < (oa.length : Int) := by omega
          have HBE := Lib.hid (show Below w.heap.size w wt from below_chain HB8.out HQ.out HB8.out.size)
          have hkk : (k2 == k1) = false := by rw [beq_eq_false_iff_ne]; exact HP2.out
          have hlw : IntKind.i64.wrap ((oa.length : Int) + 1) = (oa.length : Int) + 1 := by rw [IntKind.wrap_i64]; omega
          have hle : ((ob.length : Int) == (oa.length : Int) + 1) = true := by rw [beq_iff_eq]; have := HP3.out; omega
          have CA := awake12b_walk wt (HM.out.below HBE.out) (HT.out.below HBE.out)
          go_wp2_with fail
          refine CA.mono ?_
          rintro e wy ⟨rfl, hby⟩
          have hBy := below_chain HBE.out hby (Below.size HBE.out)
          go_wp2
          go_ret
          exact ⟨rfl, hBy⟩
end Go.Proofs.YtbmdoekfbkpaeaaGreatDoor
