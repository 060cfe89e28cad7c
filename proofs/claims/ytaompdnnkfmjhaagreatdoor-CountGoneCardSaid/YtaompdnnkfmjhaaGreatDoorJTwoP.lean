/- The objects of two trees, and counts over them: plain. The objects of two trees, as chapter 14's laws build them. -/
import Derived.Test.YtaompdnnkfmjhaaGreatDoorCountA
import Derived.Test.YtaompdnnkfmjhaaGreatDoorJCMore
import Derived.Test.YtaompdnnkfmjhaaGreatDoorJNodesW
import Derived.Test.YtaompdnnkfmjhaaGreatDoorJRBuild12
import Derived.Test.YtaompdnnkfmjhaaGreatDoorJRKey11
import Derived.Deep.CutRange
namespace Go.Proofs.YtaompdnnkfmjhaaGreatDoor

theorem okO_of {o : List Snp} {n : Nod} (hn : FitN n) (h : findR o (keyN n) = some (writeN n)) : okO o (keyN n) = true := (kids_of hn h).2
/-- What two trees' objects are to counts. -/
structure TwoT (o : List Snp) (a b : List UInt8) : Prop where
  up : upS (namesR o)
  len : o.length ≤ 140000
  raw : ∀ x ∈ o, x.2.length ≤ 1000000
  tot : rawsL o ≤ 400000
  ok : ∀ k ∈ namesR o, okO o k = true
  kid : ∀ k ∈ namesR o, ∀ j ∈ kidsO o k, j ∈ namesR o
  rank : ∃ rank, RankK (kidsO o) rank
  ha : a ∈ namesR o
  hb : b ∈ namesR o
  n32 : ∀ k ∈ namesR o, k.length = 32
theorem rawsL_adds : ∀ (y x : List Snp), rawsL (y.foldl addO x) ≤ rawsL x + rawsL y
  | [], x => by simp [rawsL]
  | z :: y, x => by
    rw [List.foldl_cons]
    have h1 := rawsL_adds y (addO x z)
    have h2 := rawsL_add x z
    have h3 : rawsL (z :: y) = z.2.length + rawsL y := by simp [rawsL]
    omega
theorem mem_adds : ∀ (y : List Snp) {x : List Snp} {u : Snp}, u ∈ y.foldl addO x → u ∈ x ∨ u ∈ y
  | [], _, _, h => .inl h
  | z :: y, x, u, h => by
    rw [List.foldl_cons] at h
    rcases mem_adds y h with h | h
    · unfold addO at h
      split at h
      · exact .inl h
      · rcases mem_insO.1 h with rfl | h
        · exact .inr List.mem_cons_self
        · exact .inl h
    · exact .inr (List.mem_cons_of_mem _ h)
theorem len_adds : ∀ (y x : List Snp), (y.foldl addO x).length ≤ x.length + y.length
  | [], x => by simp
  | z :: y, x => by
    rw [List.foldl_cons]
    have h1 := len_adds y (addO x z)
    have h2 := addO_len x z
    rw [List.length_cons]; omega
/-- Each object is a fit node's. -/
def NodeO (o : List Snp) : Prop := ∀ u ∈ o, ∃ n, FitN n ∧ u = (keyN n, writeN n)
theorem NodeO.ok {o : List Snp} (h : NodeO o) (hu : upS (namesR o)) {k : List UInt8} (hk : k ∈ namesR o) : okO o k = true := by
  obtain ⟨u, hu2, rfl⟩ := List.mem_map.1 hk
  obtain ⟨n, hn, rfl⟩ := h u hu2
  exact okO_of hn (find_mem hu _ hu2)
theorem Ready.nodeO {pc : List UInt8 → List (List UInt8)} {l : List Itm} (h : Ready pc l) : NodeO (dirO pc l 9 [] []) := fun u hu => by
  obtain ⟨n, hn, rfl⟩ := obj_node h hu
  exact ⟨n, nodesD_fit h 9 [] n hn, rfl⟩
theorem Ready.rankO {pc : List UInt8 → List (List UInt8)} {l : List Itm} (h : Ready pc l) : ∃ rank B, RankO (dirO pc l 9 [] []) rank B := by
  rw [dirO_fold]
  exact good_ranked (good_dir 9 []) (nodesD_fit h 9 [])
theorem Ready.topO {pc : List UInt8 → List (List UInt8)} {l : List Itm} (h : Ready pc l) : keyN (dirN pc l 9 []) ∈ namesR (dirO pc l 9 [] []) := by
  rw [dirO_fold]
  exact fold_key _ rfl (nodesD_fit h 9 []) _ (nodesD_top 9 [])
theorem two_of {pc pc' : List UInt8 → List (List UInt8)} {l m : List Itm} (h : Ready pc l) (h' : Ready pc' m) (hl : l.length ≤ 70) (hm : m.length ≤ 70) (sl : sizeT l ≤ 3000) (sm : sizeT m ≤ 3000) :
    TwoT ((dirO pc' m 9 [] []).foldl addO (dirO pc l 9 [] [])) (keyN (dirN pc l 9 [])) (keyN (dirN pc' m 9 [])) := by
  have hA := h.among 9 [] [] (.inl rfl) rfl ⟨rfl, by simp [namesR]⟩
  have hA' := h'.among 9 [] [] (.inl rfl) rfl ⟨rfl, by simp [namesR]⟩
  have n1 := h.nodeO
  have n2 := h'.nodeO
  obtain ⟨r1, b1, q1⟩ := h.rankO
  obtain ⟨r2, b2, q2⟩ := h'.rankO
  have t1 := h.topO
  have t2 := h'.topO
  have l1 := Nat.le_trans hA.len h.keys_len
  have l2 := Nat.le_trans hA'.len h'.keys_len
  have w1 := rawsL_objs2 h
  have w2 := rawsL_objs2 h'
  have g1 : ∀ x ∈ dirO pc l 9 [] [], x.2.length ≤ 1000000 := fun x hx => by have := objs_raw h hx; omega
  have g2 : ∀ x ∈ dirO pc' m 9 [] [], x.2.length ≤ 1000000 := fun x hx => by have := objs_raw h' hx; omega
  have f1 := hA.1
  have f2 := hA'.1
  generalize dirO pc l 9 [] [] = x at *
  generalize dirO pc' m 9 [] [] = y at *
  obtain ⟨i1, i2, i3, i4⟩ := fold_add_find y f1 (fun z hz => fit5_len12 f2 _ (List.mem_map.2 ⟨z, hz, rfl⟩)) (up_nodup (fit5_up12 f2))
  obtain ⟨rank, B, hR⟩ := two_ranked f1 f2 q1 q2
  have hno : NodeO (y.foldl addO x) := fun u hu => (mem_adds y hu).elim (n1 u) (n2 u)
  exact ⟨fit5_up12 i1, by have := len_adds y x; omega, fun u hu => (mem_adds y hu).elim (g1 u) (g2 u), by have := rawsL_adds y x; omega, fun k hk => hno.ok (fit5_up12 i1) hk, fun k hk j hj => (hR.kid k hk j hj).1, ⟨rank, hR.ranks⟩, (i4 _).2 (.inl t1), (i4 _).2 (.inr t2), fun k hk => fit5_len12 i1 k hk⟩

/-! Counts of some of the two roots. -/
structure CntT (o : List Snp) (rs : List (List UInt8)) (c : List Cnt) : Prop where
  cnt : Counts (kidsO o) rs c
  top : ∀ k ∈ rs, k ∈ namesR o
  few : rs.length ≤ 10
section
variable {o : List Snp} {a b : List UInt8}
theorem CntT.names (h : TwoT o a b) {rs : List (List UInt8)} {c : List Cnt} (hc : CntT o rs c) (k : List UInt8) (hk : cntC c k ≠ 0) : k ∈ namesR o := by
  obtain ⟨rank, hr⟩ := h.rank
  exact hc.cnt.reach hr (P := fun k => k ∈ namesR o) hc.top (fun p k hp hk => h.kid p hp k hk) k hk
theorem key32O (h : TwoT o a b) {k : List UInt8} (hk : k ∈ namesR o) : k.length ≤ maxLen := by
  rw [h.n32 k hk]; unfold maxLen; omega
theorem CntT.okC (h : TwoT o a b) {rs : List (List UInt8)} {c : List Cnt} (hc : CntT o rs c) : OkC c ∧ c.length ≤ 140000 := by
  have hlen : c.length ≤ 140000 := by
    have h1 := nodup_le (c.map (·.1)) (namesR o) (up_nodup hc.cnt.fit.up) (fun x hx => hc.names h x ((cntC_pos hc.cnt.fit).1 hx))
    rw [List.length_map, namesR_len] at h1
    have := h.len
    omega
  refine ⟨⟨hc.cnt.fit, fun x hx => ?_, fun x hx => ?_, by omega⟩, hlen⟩
  · have h3 := hc.cnt.eq x.1
    have h4 : cntC c x.1 = x.2 := by
      have h5 := hx
      rw [cnt_list hc.cnt.fit] at h5
      obtain ⟨k, -, rfl⟩ := List.mem_map.1 h5
      rfl
    have h6 : rs.count x.1 ≤ rs.length := List.count_le_length
    have h7 : namesC (kidsO o) c x.1 ≤ (c.map (·.1)).length := by unfold namesC; exact List.length_filter_le _ _
    rw [List.length_map] at h7
    have := hc.few
    omega
  · exact key32O h (hc.names h x.1 ((cntC_pos hc.cnt.fit).1 (List.mem_map.2 ⟨x, hx, rfl⟩)))
theorem CntT.nil (o : List Snp) : CntT o [] [] := ⟨Counts.nil _, by simp, by simp⟩
theorem reach_in (h : TwoT o a b) {r : List UInt8} (hr : r ∈ namesR o) (x : List UInt8) (hx : Reached o (seedP [r]) x) : x ∈ namesR o :=
  hx (fun k => k ∈ namesR o) (fun k hs => by rw [show k = r by simpa using hs.1]; exact hr) (fun k y hk hy => h.kid k hk y hy)
theorem plus_ok (h : TwoT o a b) {r : List UInt8} (hr : r ∈ namesR o) {Q : List (List UInt8)} (hm : ∀ x, x ∈ Q ↔ Reached o (seedP [r]) x) : Q.all (okO o) = true ∧ Q ≠ [] := by
  refine ⟨List.all_eq_true.2 fun x hx => h.ok x (reach_in h hr x ((hm x).1 hx)), fun e => ?_⟩
  have h1 := (hm r).2 (fun P hs _ => hs r ⟨List.mem_singleton.2 rfl, h.n32 r hr⟩)
  rw [e] at h1; cases h1
theorem CntT.plus {rs : List (List UInt8)} {c c' : List Cnt} (hc : CntT o rs c) {r : List UInt8} (hr : r ∈ namesR o) (hf : rs.length ≤ 9) {n : Nat} (hi : iterQ (plusS (kidsO o)) n ([r], c) = ([], c')) : CntT o (rs ++ [r]) c' :=
  ⟨hc.cnt.plus hi, fun k hk => (List.mem_append.1 hk).elim (hc.top k) (fun e => by rw [List.mem_singleton.1 e]; exact hr), by rw [List.length_append, List.length_singleton]; omega⟩
theorem CntT.minus {rs rs' : List (List UInt8)} {c c' : List Cnt} (hc : CntT o rs c) {r : List UInt8} (he : ∀ k, rs.count k = rs'.count k + if k = r then 1 else 0) (hs : ∀ k ∈ rs', k ∈ namesR o) (hf : rs'.length ≤ 10) {n : Nat} (hi : iterQ (minusS (kidsO o)) n ([r], c) = ([], c')) : CntT o rs' c' := by
  have h1 := minus_iter (kids := kidsO o) (kidsO_nodup o) (rs := rs') n (s := ([r], c)) (hc.cnt.minus_start he)
  rw [hi] at h1
  exact ⟨minus_end h1, hs, hf⟩
theorem CntT.root {rs : List (List UInt8)} {c : List Cnt} (hc : CntT o rs c) {r : List UInt8} (hr : r ∈ rs) : 1 ≤ cntC c r := by
  have h1 := hc.cnt.closed.1 r hr
  have h2 := cntC_nonneg hc.cnt.fit r
  omega
theorem CntT.one (h : TwoT o a b) {rs rs' : List (List UInt8)} {c c' : List Cnt} (hc : CntT o rs c) (hc' : CntT o rs' c') (he : ∀ k, rs.count k = rs'.count k) : c = c' := by
  obtain ⟨rank, hr⟩ := h.rank
  exact hc.cnt.unique hc'.cnt hr he
end
end Go.Proofs.YtaompdnnkfmjhaaGreatDoor

namespace Go.Proofs.YtaompdnnkfmjhaaGreatDoor
open Go.RowKit

theorem adds_step {y x : List Snp} {q : Nat} (h : q < y.length) : (y.take (q + 1)).foldl addO x = addO ((y.take q).foldl addO x) y[q] := by
  rw [List.take_succ_eq_append_getElem h, List.foldl_append]; rfl

set_option maxHeartbeats 8000000 in
set_option maxRecDepth 100000 in
theorem two14_walk (x k y z : Nat) (av bv : Value) (l m : List Itm) (w : World) (hf : FitC x k z) (hpk : 2 ^ k = y) (hrd : Ready (piecesC x k z) l) (hrd2 : Ready (piecesC x k z) m) (hr : ItRow w av l) (hr2 : ItRow w bv m) :
    Calls Tryz.prog 22 #[PrmV x y z, av, bv] w fun e w' => ∃ v', e = .returned (.tuple #[v', S (keyN (dirN (piecesC x k z) l 9 [])), S (keyN (dirN (piecesC x k z) m 9 []))]) ∧ SnpRow w' v' ((dirO (piecesC x k z) m 9 [] []).foldl addO (dirO (piecesC x k z) l 9 [] [])) ∧ Below w.heap.size w w' := by
  obtain ⟨w1, hw1, HB1, HC1⟩ : ∃ w1, w1 = w.alloc (.cells #[.int .i64 (x : Nat), .int .i64 (y : Nat), .int .i64 (z : Nat)] 51) ∧ Hid (Below w.heap.size w w1) ∧ Hid (w1.heap[w.heap.size]? = some (.cells #[.int .i64 (x : Nat), .int .i64 (y : Nat), .int .i64 (z : Nat)] 51 (0, 0))) :=
    ⟨_, rfl, Lib.hid ((Below.refl _ _).alloc (Nat.le_refl _) _), Lib.hid (heap_alloc_new _ _)⟩
  have C1 := rbuild12_walk x k y z av l w1 hf hpk hrd (hr.below HB1.out)
  have HLX := Lib.hid (Nat.le_trans (hrd.among 9 [] [] (.inl rfl) rfl ⟨rfl, by simp [namesR]⟩).len hrd.keys_len)
  have HLY := Lib.hid (Nat.le_trans (hrd2.among 9 [] [] (.inl rfl) rfl ⟨rfl, by simp [namesR]⟩).len hrd2.keys_len)
  have C2 := fun (W : World) (hb : Below w.heap.size w W) => rbuild12_walk x k y z bv m W hf hpk hrd2 (hr2.below hb)
  have c0 := heap_cell HC1.out (j := 0) (v := .int .i64 (x : Nat)) rfl
  have c1 := heap_cell HC1.out (j := 1) (v := .int .i64 (y : Nat)) rfl
  have c2 := heap_cell HC1.out (j := 2) (v := .int .i64 (z : Nat)) rfl
  obtain ⟨aa, ac, rfl, -⟩ := hr
  obtain ⟨ba, bc, rfl, -⟩ := hr2
  clear hrd hrd2 hf hpk
  generalize keyN (dirN (piecesC x k z) l 9 []) = ka at *
  generalize keyN (dirN (piecesC x k z) m 9 []) = kb at *
  generalize dirO (piecesC x k z) l 9 [] [] = xs at *
  generalize dirO (piecesC x k z) m 9 [] [] = ys at *
  show Calls _ _ #[.agg #[.int .i64 (x : Nat), .int .i64 (y : Nat), .int .i64 (z : Nat)], _, _] _ _
  go_enter Tryz.func22, Tryz.ntmps22
  go_upto_region 1 with fail
  rw [← hw1]
  clear hw1
  go_wp2_with fail
  refine C1.mono ?_
  rintro e w2 ⟨v2, rfl, hr2, hb2⟩
  have HB2 := Lib.hid (below_chain HB1.out hb2 HB1.out.size)
  have hC2 := (hb2.block _ (heap_lt HC1.out)).trans HC1.out
  have CB := C2 w2 HB2.out
  have HR2 := Lib.hid hr2
  have d0 := heap_cell hC2 (j := 0) (v := .int .i64 (x : Nat)) rfl
  have d1 := heap_cell hC2 (j := 1) (v := .int .i64 (y : Nat)) rfl
  have d2 := heap_cell hC2 (j := 2) (v := .int .i64 (z : Nat)) rfl
  obtain ⟨a2, n2, rfl, -, -, -⟩ := hr2
  clear C1 C2 c0 c1 c2 hb2 hC2
  go_wp2_with fail
  refine CB.mono ?_
  rintro e w3 ⟨v3, rfl, hr3, hb3⟩
  have HB3 := Lib.hid (below_chain HB2.out hb3 HB2.out.size)
  have HR3 := Lib.hid (HR2.out.below hb3)
  obtain ⟨a3, n3, rfl, -, -, hx3⟩ := hr3
  have HX3 := Lib.hid hx3
  clear CB hb3 hx3 d0 d1 d2
  have hyl := HLY.out
  go_wp2
  go_loopw [10, 29] (fun v iv wr => ∃ (q : Nat) (ac : Option Addr) (acap : Nat) (oc : List Snp), q ≤ ys.length ∧ iv = .int .i64 q ∧ v = .slice ac oc.length acap ∧ Hid (oc = (ys.take q).foldl addO xs) ∧ Hid (SnpRow wr (.slice ac oc.length acap) oc) ∧ Hid (Below w.heap.size w wr) ∧ Hid (Below w3.heap.size w3 wr)) (fun _ iv _ => ys.length - (intOf iv).toNat)
  case atStart => exact ⟨0, a2, n2, xs, Nat.zero_le _, rfl, rfl, Lib.hid rfl, HR3, HB3, Lib.hid (Below.refl _ _)⟩
  case round =>
    obtain ⟨q, ac, acap, oc, hq, rfl, rfl, HOC, HRW, HBW, HB3W⟩ := hrel
    by_cases h1 : q < ys.length
    · have h1' : (q : Int) < (ys.length : Int) := by omega
      have hx := HX3.out
      rcases hx with hx | ⟨b, o, rfl, hx⟩
      · exfalso; rw [hx] at h1; simp at h1
      obtain ⟨hx1, hx2⟩ := snp_cells hx h1
      have hc1 := cell_below HB3W.out hx1
      have hc2 := cell_below HB3W.out hx2
      have HST := Lib.hid (adds_step (x := xs) h1)
      have HLO := Lib.hid (show oc.length ≤ 1000000 by have := len_adds (ys.take q) xs; rw [← HOC.out, List.length_take] at this; have := HLX.out; omega)
      clear hx hx1 hx2
      generalize ys[q] = u at *
      obtain ⟨p, r⟩ := u
      simp only at hc1 hc2
      have HBA := Lib.hid (show Below wr.heap.size wr (wr.alloc (.cells #[S p, S r] 61)) from (Below.refl _ _).alloc (Nat.le_refl _) _)
      have r0 := cell_new wr #[S p, S r] 61 0 rfl
      have r1 := cell_new wr #[S p, S r] 61 1 rfl
      have CAD : Calls Tryz.prog 46 #[.slice ac oc.length acap, .agg #[S p, S r]] _ _ := r12add_walk (.slice ac oc.length acap) oc (p, r) _ (HRW.out.below HBA.out) (by have := HLO.out; omega)
      go_wp2_with fail
      refine CAD.mono ?_
      rintro e w5 ⟨v5, rfl, hr5, hb5⟩
      have HB5 := Lib.hid (below_chain HBA.out hb5 HBA.out.size)
      have HR5 := Lib.hid hr5
      obtain ⟨a5, n5, rfl, -, -, -⟩ := hr5
      clear CAD hb5 r0 r1
      go_wp2
      go_roundw
      case rel => exact ⟨q + 1, a5, n5, addO oc (p, r), by omega, by go_num, by rfl, Lib.hid (by rw [HST.out, HOC.out]), HR5, Lib.hid (below_chain HBW.out HB5.out HBW.out.size), Lib.hid (below_chain HB3W.out HB5.out HB3W.out.size)⟩
      case measure => simp [intOf]; omega
    · have h1' : ¬ (q : Int) < (ys.length : Int) := by omega
      obtain rfl : q = ys.length := by omega
      have HFO := Lib.hid (show oc = ys.foldl addO xs by have := HOC.out; rwa [List.take_of_length_le (Nat.le_refl _)] at this)
      go_wp2
      go_ret3
      exact ⟨_, rfl, by rw [← HFO.out]; exact HRW.out, HBW.out⟩
end Go.Proofs.YtaompdnnkfmjhaaGreatDoor
