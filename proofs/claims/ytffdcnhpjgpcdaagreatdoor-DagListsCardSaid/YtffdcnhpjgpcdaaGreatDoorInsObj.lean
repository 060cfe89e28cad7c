/- slices.Insert of one element, at silo/api.Object, into a row that the call owns. -/
import Derived.Test.YtffdcnhpjgpcdaaGreatDoorJRow
import Derived.Deep.RegionLaw
namespace Go.Proofs.YtffdcnhpjgpcdaaGreatDoor
open Go.RowKit

theorem insInfoObj : (Tryz.prog.info? 24).map (fun i => (i.zero, i.size, i.bytes)) = some (some (.agg #[.string ⟨#[]⟩, .string ⟨#[]⟩]), 2, 32) := by kernel_rfl

set_option maxHeartbeats 4000000 in
set_option maxRecDepth 100000 in
theorem insObj_end (B : Nat) (v : Value) (n vb : Nat) (xs news : List Value) (w : World) (hown : w.ownsRow B 24 2 v n xs) (hB : B ≤ w.heap.size) (hn : n ≤ 1100000) (hl : news.length = 2) (hvw : w.heap[vb]? = some (.cells news.toArray 24 (0, 0))) (h1 : ∀ u ∈ news, u.oneCell' = true) :
    Calls Tryz.prog 17 #[v, .int .i64 (n : Int), .slice (some ⟨vb, 0, none⟩) 1 1] w fun e w' => ∃ v', e = .returned v' ∧ w'.ownsRow B 24 2 v' (n + 1) (xs ++ news) ∧ Below B w w' ∧ Rest v w w' := by
  obtain ⟨i0, hi, hz0, hz1, hz2⟩ := info_parts insInfoObj
  have hnews : ∀ j u, news[j]? = some u → w.cell? ((⟨vb, 0, none⟩ : Addr).add j) = some u := by
    intro j u hj
    have e : ((⟨vb, 0, none⟩ : Addr).add j) = ⟨vb, j, none⟩ := by by_cases h0 : j = 0 <;> simp [Addr.add, h0]
    rw [e]; simp only [World.cell?, hvw]; simpa using hj
  have HOWN := Lib.hid hown
  have HLT := Lib.hid hown.lt
  have hown2 := hown.2
  clear hvw
  rcases hown2 with ⟨rfl, rfl⟩ | ⟨g, cap, cur, rfl, hbg, hg, hnc, hcm, hcs, htake⟩
  · clear hown
    go_enter Tryz.func17, Tryz.ntmps17
    go_wp2_with (at_builtin; refine wpList_append_own _ rfl _ _ 22 rfl B 24 i0 (.agg #[.string ⟨#[]⟩, .string ⟨#[]⟩]) 2 32 Tryz.underlying22 hi hz0 hz1 hz2 rfl (by decide) _ 0 xs rfl HOWN.out ⟨vb, 0, none⟩ 1 1 news rfl (by omega) hnews h1 (by unfold maxLen; omega) (by omega) hB ?_)
    intro v' w' hown' hgrow _
    go_wp2
    go_ret
    exact ⟨_, rfl, hown', (Below.refl _ _).grown hgrow hB (fun j hj => (HLT.out j hj).1), fun k hk hne => hgrow.block k hk (fun e => hne e.symm)⟩
  · clear hown hg hcs htake
    unfold maxLen at hcm
    by_cases hcn : cap = n
    · subst hcn
      go_enter Tryz.func17, Tryz.ntmps17
      go_wp2_with (at_builtin; refine wpList_append_own _ rfl _ _ 22 rfl B 24 i0 (.agg #[.string ⟨#[]⟩, .string ⟨#[]⟩]) 2 32 Tryz.underlying22 hi hz0 hz1 hz2 rfl (by decide) _ cap xs rfl HOWN.out ⟨vb, 0, none⟩ 1 1 news rfl (by omega) hnews h1 (by unfold maxLen; omega) (by omega) hB ?_)
      intro v' w' hown' hgrow _
      go_wp2
      go_ret
      exact ⟨_, rfl, hown', (Below.refl _ _).grown hgrow hB (fun j hj => (HLT.out j hj).1), fun k hk hne => hgrow.block k hk (fun e => hne e.symm)⟩
    · have hcn2 : ¬ n = cap := fun e => hcn e.symm
      go_enter Tryz.func17, Tryz.ntmps17
      go_wp2_with (at_builtin; refine wpList_append_own _ rfl _ _ 22 rfl B 24 i0 (.agg #[.string ⟨#[]⟩, .string ⟨#[]⟩]) 2 32 Tryz.underlying22 hi hz0 hz1 hz2 rfl (by decide) _ n xs rfl HOWN.out ⟨vb, 0, none⟩ 1 1 news rfl (by omega) hnews h1 (by unfold maxLen; omega) (by omega) hB ?_)
      intro v' w' hown' hgrow _
      go_wp2
      go_ret
      exact ⟨_, rfl, hown', (Below.refl _ _).grown hgrow hB (fun j hj => (HLT.out j hj).1), fun k hk hne => hgrow.block k hk (fun e => hne e.symm)⟩

theorem slcInfoObj : (Tryz.prog.info? 24).map (·.size) = some 2 := by kernel_rfl

set_option maxHeartbeats 4000000 in
set_option maxRecDepth 100000 in
theorem insObj_shift (B g cap : Nat) (cur : List Value) (n i vb : Nat) (xs news : List Value) (w : World) (hbg : B ≤ g) (hg : w.heap[g]? = some (.cells cur.toArray 24 (0, 0))) (hcap : n + 1 ≤ cap) (hcm : cap ≤ maxLen) (hcs : cur.length = cap * 2) (htake : cur.take (n * 2) = xs) (hi : i < n) (hB : B ≤ w.heap.size) (hn : n ≤ 1100000) (hl : news.length = 2) (hvw : w.heap[vb]? = some (.cells news.toArray 24 (0, 0))) (h1 : ∀ u ∈ news, u.oneCell' = true) (hx1 : ∀ u ∈ xs, u.oneCell' = true) (hne : vb ≠ g) :
    Calls Tryz.prog 17 #[.slice (some ⟨g, 0, none⟩) n cap, .int .i64 (i : Int), .slice (some ⟨vb, 0, none⟩) 1 1] w fun e w' => ∃ v', e = .returned v' ∧ w'.ownsRow B 24 2 v' (n + 1) (xs.take (i * 2) ++ (news ++ xs.drop (i * 2))) ∧ Below B w w' ∧ Rest (.slice (some ⟨g, 0, none⟩) n cap) w w' := by
  unfold maxLen at hcm
  have hov : ∀ lb cb, (callFunc 26 #[.slice (some ⟨vb, 0, none⟩) 1 1, .slice (some ⟨g, (i + 1) * 2, none⟩) lb cb]).run Tryz.prog w = .ok (.value (.bool false)) w := fun lb cb => by
    have hsa : w.shape? vb = some (24, news.toArray.size) := by simp [World.shape?, hvw]
    have hsb : w.shape? g = some (24, cur.toArray.size) := by simp [World.shape?, hg]
    rw [run_callFunc_extern Tryz.func26 (by kernel_rfl) (by kernel_rfl) (by kernel_rfl) (e := Extern.SlicesOverlaps.overlaps #[22, 22] #[4]) (by kernel_rfl),
      Lib.run_overlaps_apart w 22 4 24 Tryz.underlying22 2 Tryz.sizeOf24 ⟨vb, 0, none⟩ ⟨g, (i + 1) * 2, none⟩ 1 1 lb cb hne _ _ _ _ hsa hsb (by rw [List.size_toArray, hcs]; omega) (by simp [World.frozen?, hvw]) (by simp [World.frozen?, hvw])]
    rfl
  have hcap2 : ¬ cap = i + 1 := by omega
  have hcap3 : ¬ cap = i := by omega
  have hwr : IntKind.i64.wrap ((i : Int) + 1) = (i : Int) + 1 := by rw [IntKind.wrap_i64]; omega
  have htn : ((i : Int) + 1).toNat = i + 1 := by omega
  have hb1 : (0 : Int) ≤ (i : Int) + 1 := by omega
  have hb2 : (i : Int) ≤ (n : Int) := by omega
  have hb3 : (i : Int) ≤ (n : Int) + 1 := by omega
  have hxl : xs.length = n * 2 := by rw [← htake, List.length_take]; omega
  have hdl : (xs.drop (i * 2)).length = (n - i) * 2 := by rw [List.length_drop, hxl]; omega
  obtain ⟨X2, hX2⟩ : ∃ X2, X2 = xs.drop (i * 2) := ⟨_, rfl⟩
  rw [← hX2] at hdl ⊢
  have hX2s : ∀ j v, X2[j]? = some v → w.cell? ((⟨g, i * 2, none⟩ : Addr).add j) = some v := by
    intro j v hj
    rw [Addr.add_lit]
    simp only [World.cell?, hg]
    rw [hX2, ← htake, List.getElem?_drop, List.getElem?_take] at hj
    split at hj
    · simpa using hj
    · cases hj
  have hX21 : ∀ v ∈ X2, v.oneCell' = true := fun v hv => hx1 v (List.mem_of_mem_drop (hX2 ▸ hv))
  have HFIN := Lib.hid (show xs.take (i * 2) ++ (news ++ X2) = (splice (splice cur ((i + 1) * 2) X2) (i * 2) news).take ((n + 1) * 2) by
    have e : ∀ A D : List Value, A.length = i * 2 → (A ++ (news ++ (X2 ++ D))).take ((n + 1) * 2) = A ++ (news ++ X2) := by
      intro A D hA
      rw [show A ++ (news ++ (X2 ++ D)) = (A ++ (news ++ X2)) ++ D by simp, List.take_left' (by simp; omega)]
    rw [show (i + 1) * 2 = i * 2 + 2 by omega, splice_back hl (by omega), e _ _ (by simp; omega), ← htake, List.take_take, Nat.min_eq_left (by omega)])
  have hsl : (splice (splice cur ((i + 1) * 2) X2) (i * 2) news).length = cap * 2 := by
    rw [length_splice _ _ _ (by rw [length_splice _ _ _ (by omega)]; omega), length_splice _ _ _ (by omega), hcs]
  have HSL := Lib.hid hsl
  obtain ⟨C1, hC1⟩ : ∃ C1, C1 = splice cur ((i + 1) * 2) X2 := ⟨_, rfl⟩
  have hC1l : C1.length = cap * 2 := by rw [hC1, length_splice _ _ _ (by omega), hcs]
  rw [← hC1] at HSL HFIN
  have HC1 := Lib.hid hC1
  have hcl : C1.length = cap * 2 ∧ cur.length = cap * 2 ∧ X2.length = (n - i) * 2 ∧ news.length = 2 := ⟨hC1l, hcs, hdl, hl⟩
  have HCL := Lib.hid hcl
  have HN := Lib.hid hl
  clear hC1 hsl hX2 hxl htake hcs hC1l hdl hcl
  go_enter Tryz.func17, Tryz.ntmps17
  go_wp2_with (simp only [hov])
  go_region_law (refine step_copy_k 2 rfl (.tmp 73) (.tmp 76) 22 22 rfl 24 Tryz.underlying22 slcInfoObj g ((i + 1) * 2) (n + 1 - (i + 1)) (cap - (i + 1)) ⟨g, i * 2, none⟩ (n + 1 - i) (cap - i) (by simp [Act.eval, Act.put]) (by simp [Act.eval, Act.put]) cur 24 hg X2 (by have := HCL.out; simp only [Nat.min_def]; split <;> omega) hX2s (by have := HCL.out; omega) hX21 B w (below_drewN 1 |>.mono hB) hbg ?_; intro w2 hg2 hb2 hk2)
  have hw2 : w2.heap[vb]? = some (.cells news.toArray 24 (0, 0)) := (hk2 vb hne).trans hvw
  have hnews2 : ∀ j u, news[j]? = some u → w2.cell? ((⟨vb, 0, none⟩ : Addr).add j) = some u := by
    intro j u hj
    have e : ((⟨vb, 0, none⟩ : Addr).add j) = ⟨vb, j, none⟩ := by by_cases h0 : j = 0 <;> simp [Addr.add, h0]
    rw [e]; simp only [World.cell?, hw2]; simpa using hj
  rw [← HC1.out] at hg2
  have HG2 := Lib.hid hg2.out
  have HK2 := Lib.hid hk2
  clear hg2 hk2 hw2 hov HC1
  go_wp2_with (with_reducible refine wpList_copy_k 2 rfl (.tmp 80) (.tmp 81) 22 22 rfl 24 Tryz.underlying22 slcInfoObj g (i * 2) (n + 1 - i) (cap - i) ⟨vb, 0, none⟩ 1 1 rfl rfl C1 24 HG2.out news ?_ hnews2 ?_ h1 B w hb2 hbg ?_)
  · have := HCL.out; simp only [Nat.min_def]; split <;> omega
  · have := HCL.out; omega
  intro w3 hg3 hb3 hk3
  have HK3 := Lib.hid hk3
  clear hk3
  go_wp2
  go_ret
  refine ⟨_, rfl, ⟨?_, .inr ⟨g, cap, _, rfl, hbg, hg3.out, hcap, by unfold maxLen; exact hcm, ?_, ?_⟩⟩, hb3, fun k hk hne => (HK3.out k (fun e => hne (by rw [e]; rfl))).trans (HK2.out k (fun e => hne (by rw [e]; rfl)))⟩
  · have := HCL.out; rw [HFIN.out, List.length_take, HSL.out]; omega
  · simpa using HSL.out
  · rw [HFIN.out]

set_option maxHeartbeats 4000000 in
set_option maxRecDepth 100000 in
theorem insObj_grow (B g : Nat) (cur : List Value) (n i vb : Nat) (xs news : List Value) (w : World) (_ : B ≤ g) (hg : w.heap[g]? = some (.cells cur.toArray 24 (0, 0))) (hcs : cur.length = n * 2) (htake : cur.take (n * 2) = xs) (hi : i < n) (hB : B ≤ w.heap.size) (hn : n ≤ 1100000) (hl : news.length = 2) (hvw : w.heap[vb]? = some (.cells news.toArray 24 (0, 0))) (h1 : ∀ u ∈ news, u.oneCell' = true) (hx1 : ∀ u ∈ xs, u.oneCell' = true) :
    Calls Tryz.prog 17 #[.slice (some ⟨g, 0, none⟩) n n, .int .i64 (i : Int), .slice (some ⟨vb, 0, none⟩) 1 1] w fun e w' => ∃ v', e = .returned v' ∧ w'.ownsRow B 24 2 v' (n + 1) (xs.take (i * 2) ++ (news ++ xs.drop (i * 2))) ∧ Below B w w' ∧ Rest (.slice (some ⟨g, 0, none⟩) n n) w w' := by
  obtain ⟨i0, hi0, hz0, hzs, hzb⟩ := info_parts insInfoObj
  have hcx : cur = xs := by rw [← htake, List.take_of_length_le (by omega)]
  subst hcx
  clear htake
  have hgw : g < w.heap.size := by
    rcases Nat.lt_or_ge g w.heap.size with h | h
    · exact h
    · rw [Array.getElem?_eq_none h] at hg; cases hg
  have hvw2 : vb < w.heap.size := by
    rcases Nat.lt_or_ge vb w.heap.size with h | h
    · exact h
    · rw [Array.getElem?_eq_none h] at hvw; cases hvw
  have hkk : (n : Int) + 1 - (i : Int) = ((n + 1 - i : Nat) : Int) := by omega
  have hik : i + (n + 1 - i) = n + 1 := by omega
  have hold : (Builtin.firstCells i0.size i (.slice (some ⟨g, 0, none⟩) i n)).run Tryz.prog w.drew = .ok (cur.take (i * 2)).toArray w.drew := by
    rw [hzs]
    exact run_firstCells_some w.drew 2 i ⟨g, 0, none⟩ i n (cur.take (i * 2)) (by rw [List.length_take]; omega) (fun j v hj => by
      rw [Addr.add_lit]
      simp only [World.cell?, show w.drew.heap = w.heap from rfl, hg]
      rw [List.getElem?_take] at hj
      split at hj
      · simpa using hj
      · cases hj)
  have hrz : ∀ ty, ∃ G D : _, n + 1 ≤ G ∧ G ≤ maxLen ∧ D.length = (G - i) * 2 ∧ (Builtin.append_ #[22, 3] ty #[.slice (some ⟨g, 0, none⟩) i n, .int .i64 ((n : Int) + 1 - (i : Int))]).run Tryz.prog w =
      .ok (.slice (some ⟨w.heap.size, 0, none⟩) (n + 1) G) (w.drew.alloc (.cells (cur.take (i * 2) ++ D).toArray 24)) := fun ty => by
    have h := Lib.run_append_grow_zeros w 22 3 ty 24 i0 _ .i64 .i64 Tryz.underlying22 Tryz.underlying3 hi0 hz0 (some ⟨g, 0, none⟩) i n (cur.take (i * 2)) hold (n + 1 - i) (by omega) (by omega) (by omega) (by omega) (by rw [hzb]; omega) (by rw [hzb, hik]; exact growslice_fits (by omega) (by omega))
    rw [hik] at h
    rw [hkk]
    have hge := grownCap_ge w (n + 1) n 24
    refine ⟨grownCap w (n + 1) n 24, (Builtin.zeroCells (.agg #[.string ⟨#[]⟩, .string ⟨#[]⟩] : Value).cells (n + 1 - i) ++ Builtin.zeroCells (.agg #[.string ⟨#[]⟩, .string ⟨#[]⟩] : Value).cells (grownCap w (n + 1) n 24 - (n + 1))).toList, hge, grownCap_le_maxLen w _ _ _ (by unfold maxLen; omega), ?_, ?_⟩
    · simp [size_zeroCells, Value.cells]; omega
    · rw [h]; congr 3; simp
  obtain ⟨G, D, hG1, hG2, hD, hrz⟩ := hrz 22
  unfold maxLen at hG2
  obtain ⟨A, hA⟩ : ∃ A, A = cur.take (i * 2) := ⟨_, rfl⟩
  obtain ⟨X2, hX2⟩ : ∃ X2, X2 = cur.drop (i * 2) := ⟨_, rfl⟩
  rw [← hA] at hrz ⊢
  rw [← hX2]
  have hAl : A.length = i * 2 := by rw [hA, List.length_take]; omega
  have hdl : X2.length = (n - i) * 2 := by rw [hX2, List.length_drop]; omega
  have hX2s : ∀ j v, X2[j]? = some v → w.cell? ((⟨g, i * 2, none⟩ : Addr).add j) = some v := by
    intro j v hj
    rw [Addr.add_lit]
    simp only [World.cell?, hg]
    rw [hX2, List.getElem?_drop] at hj
    simpa using hj
  have hX21 : ∀ v ∈ X2, v.oneCell' = true := fun v hv => hx1 v (List.mem_of_mem_drop (hX2 ▸ hv))
  obtain ⟨ROW, hROW⟩ : ∃ ROW, ROW = A ++ D := ⟨_, rfl⟩
  rw [← hROW] at hrz
  have hRl : ROW.length = G * 2 := by rw [hROW, List.length_append, hAl, hD, ← Nat.add_mul]; congr 1; omega
  have hsp := splice_then (L := ROW) (N := news) (X := X2) (a := i * 2) (m := 2) hl (by omega)
  have hRA : ROW.take (i * 2) = A := by rw [hROW, ← hAl, List.take_left]
  have HFIN := Lib.hid (show A ++ (news ++ X2) = (splice (splice ROW (i * 2) news) (i * 2 + 2) X2).take ((n + 1) * 2) by
    rw [hsp, hRA]
    generalize ROW.drop _ = E
    rw [show A ++ (news ++ (X2 ++ E)) = (A ++ (news ++ X2)) ++ E by simp, List.take_left' (by simp; omega)])
  have hC1l : (splice ROW (i * 2) news).length = G * 2 := by rw [length_splice _ _ _ (by omega), hRl]
  have HSL := Lib.hid (show (splice (splice ROW (i * 2) news) (i * 2 + 2) X2).length = G * 2 by rw [length_splice _ _ _ (by omega), hC1l])
  obtain ⟨C1, hC1⟩ : ∃ C1, C1 = splice ROW (i * 2) news := ⟨_, rfl⟩
  rw [← hC1] at HSL HFIN hC1l
  obtain ⟨W1, hW1⟩ : ∃ W1, W1 = w.drew.alloc (.cells ROW.toArray 24) := ⟨_, rfl⟩
  rw [← hW1] at hrz
  have hg1 : W1.heap[w.heap.size]? = some (.cells ROW.toArray 24 (0, 0)) := by rw [hW1]; exact heap_alloc_new w.drew _
  have hb1 : Below w.heap.size w W1 := by rw [hW1]; exact (below_drewN 1).alloc (Nat.le_refl _) _
  have hold1 : ∀ k, k < w.heap.size → W1.heap[k]? = w.heap[k]? := hb1.block
  have hnews1 : ∀ j u, news[j]? = some u → W1.cell? ((⟨vb, 0, none⟩ : Addr).add j) = some u := by
    intro j u hj
    have e : ((⟨vb, 0, none⟩ : Addr).add j) = ⟨vb, j, none⟩ := by by_cases h0 : j = 0 <;> simp [Addr.add, h0]
    rw [e]; simp only [World.cell?, hold1 vb hvw2, hvw]; simpa using hj
  have hsz1 : w.heap.size ≤ W1.heap.size := hb1.size
  have HX2 := Lib.hid hX2s
  have HC1 := Lib.hid hC1
  have HO := Lib.hid hold1
  have HL := Lib.hid (show C1.length = G * 2 ∧ ROW.length = G * 2 ∧ X2.length = (n - i) * 2 ∧ news.length = 2 from ⟨hC1l, hRl, hdl, hl⟩)
  have hwr : IntKind.i64.wrap ((i : Int) + 1) = (i : Int) + 1 := by rw [IntKind.wrap_i64]; omega
  have htn : ((i : Int) + 1).toNat = i + 1 := by omega
  have hp1 : (0 : Int) ≤ (i : Int) + 1 := by omega
  have hp2 : (i : Int) ≤ (n : Int) := by omega
  have hG3 : ¬ G = i := by omega
  have hG4 : ¬ G = i + 1 := by omega
  have hn3 : ¬ n = i := by omega
  clear hkk hik hold hC1 hW1 hX2s hold1 hROW hRA hsp hA hX2 hAl hdl hD hC1l hRl hzs hzb hz0
  go_enter Tryz.func17, Tryz.ntmps17
  go_wp2_with (first
    | (at_builtin; refine Lib.wpList_append_run _ rfl _ _ _ _ rfl _ _ rfl rfl _ _ hrz ?_)
    | (with_reducible refine wpList_copy_k 2 rfl (.tmp 43) (.tmp 44) 22 22 rfl 24 Tryz.underlying22 slcInfoObj w.heap.size (i * 2) (n + 1 - i) (G - i) ⟨vb, 0, none⟩ 1 1 rfl rfl ROW 24 hg1 news ?_ hnews1 ?_ h1 w.heap.size w hb1 (Nat.le_refl _) ?_))
  · have := HL.out; simp only [Nat.min_def]; split <;> omega
  · have := HL.out; omega
  intro w2 hg2 hb2 hk2
  rw [← HC1.out] at hg2
  have HG2 := Lib.hid hg2.out
  have hX2w : ∀ j v, X2[j]? = some v → w2.drew.cell? ((⟨g, i * 2, none⟩ : Addr).add j) = some v := by
    intro j v hj
    have h := HX2.out j v hj
    have hk : w2.heap[g]? = w.heap[g]? := (hk2 g (by omega)).trans (HO.out g hgw)
    rw [Addr.add_lit] at h ⊢
    simp only [World.cell?, show w2.drew.heap = w2.heap from rfl, hk] at h ⊢
    exact h
  clear hg2 hk2 HC1 HX2 hnews1 hg1
  go_wp2
  go_region_law (refine step_copy_k 2 rfl (.tmp 50) (.tmp 53) 22 22 rfl 24 Tryz.underlying22 slcInfoObj w.heap.size (i * 2 + 2) (n + 1 - (i + 1)) (G - (i + 1)) ⟨g, i * 2, none⟩ (n - i) (n - i) (by simp [Act.eval, Act.put]) (by simp [Act.eval, Act.put]) C1 24 HG2.out X2 (by have := HL.out; simp only [Nat.min_def]; split <;> omega) hX2w (by have := HL.out; omega) hX21 w.heap.size w (hb2.drew) (Nat.le_refl _) ?_; intro w3 hg3 hb3 _)
  go_wp2
  go_ret
  refine ⟨_, rfl, ⟨?_, .inr ⟨w.heap.size, G, _, rfl, hB, hg3.out, hG1, by unfold maxLen; exact hG2, ?_, ?_⟩⟩, hb3.mono hB, fun k hk _ => hb3.block k hk⟩
  · have := HL.out; rw [HFIN.out, List.length_take, HSL.out]; omega
  · simpa using HSL.out
  · rw [HFIN.out]

/-- slices.Insert of one element: the row, with the element at place i. -/
theorem insObj_walkR (B : Nat) (v : Value) (n i vb : Nat) (xs news : List Value) (w : World) (hown : w.ownsRow B 24 2 v n xs) (hi : i ≤ n) (hB : B ≤ w.heap.size) (hn : n ≤ 1100000) (hl : news.length = 2) (hvw : w.heap[vb]? = some (.cells news.toArray 24 (0, 0))) (h1 : ∀ u ∈ news, u.oneCell' = true) (hx1 : ∀ u ∈ xs, u.oneCell' = true) (hne : v.ownBlock ≠ some vb) :
    Calls Tryz.prog 17 #[v, .int .i64 (i : Int), .slice (some ⟨vb, 0, none⟩) 1 1] w fun e w' => ∃ v', e = .returned v' ∧ w'.ownsRow B 24 2 v' (n + 1) (xs.take (i * 2) ++ (news ++ xs.drop (i * 2))) ∧ Below B w w' ∧ Rest v w w' := by
  rcases Nat.lt_or_ge i n with h | h
  · rcases hown.2 with ⟨rfl, rfl⟩ | ⟨g, cap, cur, rfl, hbg, hg, hnc, hcm, hcs, htake⟩
    · omega
    · have hne2 : vb ≠ g := by rintro rfl; exact hne rfl
      rcases Nat.lt_or_ge n cap with hc | hc
      · exact insObj_shift B g cap cur.toList n i vb xs news w hbg (by simpa using hg) hc hcm (by simpa using hcs) htake h hB hn hl hvw h1 hx1 hne2
      · obtain rfl : cap = n := by omega
        exact insObj_grow B g cur.toList cap i vb xs news w hbg (by simpa using hg) (by simpa using hcs) htake h hB hn hl hvw h1 hx1
  · obtain rfl : i = n := by omega
    have hxl := hown.1
    refine (insObj_end B v i vb xs news w hown hB hn hl hvw h1).mono ?_
    rintro e w' ⟨v', rfl, ho, hb⟩
    exact ⟨v', rfl, by rw [List.take_of_length_le (by omega), List.drop_eq_nil_of_le (by omega), List.append_nil]; exact ho, hb⟩
theorem insObj_walk (B : Nat) (v : Value) (n i vb : Nat) (xs news : List Value) (w : World) (hown : w.ownsRow B 24 2 v n xs) (hi : i ≤ n) (hB : B ≤ w.heap.size) (hn : n ≤ 1100000) (hl : news.length = 2) (hvw : w.heap[vb]? = some (.cells news.toArray 24 (0, 0))) (h1 : ∀ u ∈ news, u.oneCell' = true) (hx1 : ∀ u ∈ xs, u.oneCell' = true) (hne : v.ownBlock ≠ some vb) :
    Calls Tryz.prog 17 #[v, .int .i64 (i : Int), .slice (some ⟨vb, 0, none⟩) 1 1] w fun e w' => ∃ v', e = .returned v' ∧ w'.ownsRow B 24 2 v' (n + 1) (xs.take (i * 2) ++ (news ++ xs.drop (i * 2))) ∧ Below B w w' :=
  (insObj_walkR B v n i vb xs news w hown hi hB hn hl hvw h1 hx1 hne).mono fun _ _ ⟨v', h1, h2, h3, _⟩ => ⟨v', h1, h2, h3⟩
end Go.Proofs.YtffdcnhpjgpcdaaGreatDoor
