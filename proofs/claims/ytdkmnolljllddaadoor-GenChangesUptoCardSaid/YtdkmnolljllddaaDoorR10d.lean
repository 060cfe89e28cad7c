/- The reference's with, and Drop. -/
import Derived.Test.YtdkmnolljllddaaDoorR10b
namespace Go.Proofs.YtdkmnolljllddaaDoor
open Go.RowKit

theorem filt_all {p : Itm → Bool} : ∀ {A : List Itm}, (∀ y ∈ A, p y = true) → A.filter p = A := fun h => List.filter_eq_self.2 h
theorem filt_none {p : Itm → Bool} : ∀ {A : List Itm}, (∀ y ∈ A, p y = false) → A.filter p = [] := fun h => List.filter_eq_nil_iff.2 (fun a ha => by rw [h a ha]; simp)
theorem withT_split {A B : List Itm} {x : Itm} (hA : ∀ y ∈ A, ltP y.1 x.1 = true) (hB : ∀ y ∈ B, ltP x.1 y.1 = true) : withT (A ++ B) x = A ++ x :: B := by
  unfold withT
  rw [List.filter_append, List.filter_append, filt_all hA, filt_all hB, filt_none (A := B) (fun y hy => ltP_asymm (hB y hy)), filt_none (A := A) (fun y hy => ltP_asymm (hA y hy)), List.append_nil, List.nil_append]
theorem withT_split2 {A B : List Itm} {x z : Itm} (hA : ∀ y ∈ A, ltP y.1 x.1 = true) (hB : ∀ y ∈ B, ltP x.1 y.1 = true) (hz : z.1 = x.1) : withT (A ++ z :: B) x = A ++ x :: B := by
  have h := withT_split hA hB
  unfold withT at *
  rw [List.filter_append, List.filter_append, List.filter_cons_of_neg (p := fun y : Itm => ltP y.1 x.1) (by simp [hz, ltP_irrefl]), List.filter_cons_of_neg (p := fun y : Itm => ltP x.1 y.1) (by simp [hz, ltP_irrefl])]
  rw [List.filter_append, List.filter_append] at h
  exact h
theorem up_rest {l : List Itm} {k : Nat} (hu : upT (l.map (·.1))) (h1 : k < l.length) : ∀ y ∈ l.drop (k + 1), ltP l[k].1 y.1 = true := by
  intro y hy
  obtain ⟨j, hj, rfl⟩ := List.mem_iff_getElem.1 hy
  rw [List.length_drop] at hj
  rw [List.getElem_drop]
  unfold upT at hu
  rw [List.pairwise_map] at hu
  exact List.pairwise_iff_getElem.1 hu k (k + 1 + j) h1 (by omega) (by omega)
theorem wait_step {l : List Itm} {x : Itm} {k : Nat} (h1 : k < l.length) (ha : ∀ y ∈ l.take k, ltP y.1 x.1 = true) (h : ltP l[k].1 x.1 = true) : ∀ y ∈ l.take (k + 1), ltP y.1 x.1 = true := by
  intro y hy
  rw [List.take_succ_eq_append_getElem h1] at hy
  rcases List.mem_append.1 hy with h2 | h2
  · exact ha y h2
  · simp at h2; subst h2; exact h
theorem now_eq {l : List Itm} {x : Itm} {k : Nat} (hu : upT (l.map (·.1))) (h1 : k < l.length) (ha : ∀ y ∈ l.take k, ltP y.1 x.1 = true) (h : l[k].1 = x.1) :
    withT l x = (l.take k ++ [x]) ++ l.drop (k + 1) ∧ ∀ y ∈ l.drop (k + 1), ltP x.1 y.1 = true := by
  have hb : ∀ y ∈ l.drop (k + 1), ltP x.1 y.1 = true := by rw [← h]; exact up_rest hu h1
  refine ⟨?_, hb⟩
  conv => lhs; rw [← List.take_append_drop k l, List.drop_eq_getElem_cons h1]
  rw [withT_split2 ha hb h]
  simp
theorem now_gt {l : List Itm} {x : Itm} {k : Nat} (hu : upT (l.map (·.1))) (h1 : k < l.length) (ha : ∀ y ∈ l.take k, ltP y.1 x.1 = true) (h : ltP x.1 l[k].1 = true) :
    withT l x = (l.take k ++ [x] ++ [l[k]]) ++ l.drop (k + 1) ∧ ∀ y ∈ l.drop (k + 1), ltP x.1 y.1 = true := by
  have hb : ∀ y ∈ l.drop (k + 1), ltP x.1 y.1 = true := fun y hy => ltP_trans h (up_rest hu h1 y hy)
  refine ⟨?_, hb⟩
  conv => lhs; rw [← List.take_append_drop k l]
  rw [withT_split ha (by rw [List.drop_eq_getElem_cons h1]; intro y hy; rcases List.mem_cons.1 hy with rfl | hy; exact h; exact hb y hy), List.drop_eq_getElem_cons h1]
  simp
theorem with_end {l : List Itm} {x : Itm} (ha : ∀ y ∈ l, ltP y.1 x.1 = true) : withT l x = l ++ [x] := by
  have := withT_split (B := []) ha (by simp)
  simpa using this

set_option maxHeartbeats 4000000 in
set_option maxRecDepth 100000 in
theorem r10with_walk (v : Value) (l : List Itm) (x : Itm) (w : World) (hr : ItRow w v l) (hcnt : l.length ≤ 1100000) (hu : upT (l.map (·.1))) (hpl : ∀ x ∈ l, x.1.length ≤ 1100000) (hx1 : x.1.length ≤ 1100000) :
    Calls Tryd.prog 79 #[v, ItV x] w fun e w' => ∃ v', e = .returned v' ∧ ItRow w' v' (withT l x) ∧ Below w.heap.size w w' := by
  obtain ⟨p, dd, ex, dt⟩ := x
  have HU := Lib.hid hu
  have HPL := Lib.hid hpl
  obtain ⟨a, c, rfl, hc, hm, hx⟩ := hr
  have HX := Lib.hid hx
  clear hx hu hpl
  simp only at hx1
  obtain ⟨i0, hi, hz0, hz1, hz2⟩ := info_parts infoIt
  obtain ⟨w1, hw1, hB1, hr0, hs1⟩ : ∃ w1, w1 = w.alloc (.cells #[S p, .bool dd, .bool ex, S dt] 32) ∧ Below w.heap.size w w1 ∧ w1.heap[w.heap.size]? = some (.cells #[S p, .bool dd, .bool ex, S dt] 32 (0, 0)) ∧ w1.heap.size = w.heap.size + 1 :=
    ⟨_, rfl, (Below.refl _ _).alloc (Nat.le_refl _) _, heap_alloc_new _ _, World.size_alloc _ _⟩
  obtain ⟨⟨r0, r1, r2, r3⟩, -, -⟩ := box4 hr0
  go_enter Tryd.func79, Tryd.ntmps79
  go_upto_region 1 with fail
  rw [← hw1]
  clear hw1
  go_wp2
  go_loopw [5, 6, 7] (fun v dn i wr => ∃ (k : Nat) (out : List Itm), k ≤ l.length ∧ i = .int .i64 k ∧ Below (w.heap.size + 1) w1 wr ∧ wr.ownsRow (w.heap.size + 1) 32 4 v out.length (out.flatMap itC) ∧ out.length ≤ k + 1 ∧
      ((dn = .bool false ∧ out = l.take k ∧ ∀ y ∈ l.take k, ltP y.1 p = true) ∨ (dn = .bool true ∧ withT l (p, dd, ex, dt) = out ++ l.drop k ∧ ∀ y ∈ l.drop k, ltP p y.1 = true))) (fun _ _ i _ => l.length - (intOf i).toNat)
  case atStart => exact ⟨0, [], Nat.zero_le _, rfl, Below.refl _ _, World.ownsRow_nil _ _ _ _, by simp, .inl ⟨rfl, rfl, by simp⟩⟩
  case round =>
    obtain ⟨k, out, hk, rfl, hBR, hown, hol, hst⟩ := hrel
    have hsz := hBR.size
    by_cases h1 : k < l.length
    · have hx := HX.out
      rcases hx with hx | ⟨b, o, rfl, hx⟩
      · exfalso; rw [hx] at h1; simp at h1
      obtain ⟨hy1, hy2, hy3, hy4⟩ := it_cells hx h1
      have hBW : Below w.heap.size w wr := hB1.trans (hBR.mono (by omega))
      have HBR := Lib.hid hBR
      have hc1 := LaterOf.cell (cell_below hBW hy1)
      have HC1 := Lib.hid (cell_below hBW hy1)
      have HC2 := Lib.hid (cell_below hBW hy2)
      have HC3 := Lib.hid (cell_below hBW hy3)
      have HC4 := Lib.hid (cell_below hBW hy4)
      have q0' := (hBR.cell (p := ⟨w.heap.size, 0, none⟩) (by simp)).trans r0
      have HQ1 := Lib.hid ((hBR.cell (p := ⟨w.heap.size, 1, none⟩) (by simp)).trans r1)
      have HQ2 := Lib.hid ((hBR.cell (p := ⟨w.heap.size, 2, none⟩) (by simp)).trans r2)
      have HQ3 := Lib.hid ((hBR.cell (p := ⟨w.heap.size, 3, none⟩) (by simp)).trans r3)
      have HQ0 := Lib.hid q0'
      have q0 := LaterOf.cell q0'
      have CO := fun (q : LaterOf wr) => rorder_walk l[k].1 p q.world (HPL.out _ (List.getElem_mem h1)) hx1
      rw [show cmpParts (partsL l[k].1) (partsL p) = orderL l[k].1 p from rfl] at CO
      have h3 := ltP_three l[k].1 p
      have HTK := Lib.hid (List.take_succ_eq_append_getElem h1)
      have HDK := Lib.hid (List.drop_eq_getElem_cons h1)
      have HWAIT := Lib.hid (fun ha h => wait_step (x := (p, dd, ex, dt)) h1 ha h)
      have HEQ := Lib.hid (fun ha h => now_eq (x := (p, dd, ex, dt)) HU.out h1 ha h)
      have HGT := Lib.hid (fun ha h => now_gt (x := (p, dd, ex, dt)) HU.out h1 ha h)
      have HOWN := Lib.hid hown
      have hszr : w.heap.size + 1 ≤ wr.heap.size := by omega
      have HY1 := Lib.hid hy1
      have HY2 := Lib.hid hy2
      have HY3 := Lib.hid hy3
      have HY4 := Lib.hid hy4
      clear hx hy1 hy2 hy3 hy4 q0' hBW hown hBR
      generalize l[k] = y at *
      obtain ⟨yp, yd, ye, yt⟩ := y
      simp only at hc1 HC1 HC2 HC3 HC4 HY1 HY2 HY3 HY4 CO HWAIT HEQ HGT h3
      have h1' : (k : Int) < (l.length : Int) := by omega
      have hfin : ∀ (dn : Value) (q : LaterOf wr), (dn = .bool true ∨ True) → True := fun _ _ _ => trivial
      clear hfin
      have hfacts := fun q : LaterOf wr => (⟨below_chain HBR.out q.below hszr, own_on HOWN.out q.below, ⟨cell_below q.below HC1.out, cell_below q.below HC2.out, cell_below q.below HC3.out, cell_below q.below HC4.out⟩, cell_below q.below HQ0.out, cell_below q.below HQ1.out, cell_below q.below HQ2.out, cell_below q.below HQ3.out⟩ : _ ∧ _ ∧ (_ ∧ _ ∧ _ ∧ _) ∧ _ ∧ _ ∧ _ ∧ _)
      have HFACTS := Lib.hid hfacts
      clear hfacts HC1 HC2 HC3 HC4 HQ0 HQ1 HQ2 HQ3
      rcases hst with ⟨rfl, hout, hall⟩ | ⟨rfl, hins, hall⟩
      · have hol' : out.length ≤ k := by rw [hout, List.length_take]; omega
        have HO := Lib.hid hout
        have HALL := Lib.hid hall
        clear hout hall
        rcases h3 with ⟨hc, hlt, -, -⟩ | ⟨hc, -, -, he⟩ | ⟨hc, -, hgt, -⟩
        · have HW := Lib.hid (HWAIT.out HALL.out hlt)
          rw [hc] at CO
          clear hc hlt
          go_wp2
          (refine wp_region_later (by kernel_rfl) (by kernel_rfl) ?_; (repeat (go_big_quiet_step ((go_at_call 31; exact LaterOf.call _ (CO _))))); refine wpQuiet_nil ?_; intro _ hw1; obtain ⟨lw, hw2⟩ := hw1; subst hw2)
          obtain ⟨hB2, hown2, ⟨c1, c2, c3, c4⟩, b0, b1, b2, b3⟩ := HFACTS.out lw
          clear HFACTS
          generalize lw.world = wq at *
          have hq2 : w.heap.size + 1 ≤ wq.heap.size := by have := hB2.size; omega
          skip
          go_wp2_with (at_builtin; refine wpList_append_own _ rfl _ _ 22 rfl (w.heap.size + 1) 32 i0 (.agg #[.string ⟨#[]⟩, .bool false, .bool false, .string ⟨#[]⟩]) 4 40 Tryd.underlying22 hi hz0 hz1 hz2 rfl (by decide) _ _ _ rfl (hown2.alloc _) ⟨wq.heap.size, 0, none⟩ 1 1 [S yp, .bool yd, .bool ye, S yt] rfl rfl (new_cells4 _ _ _ _ _ _) (it4_one (yp, yd, ye, yt)) (by unfold maxLen; omega) (by omega) (by simp; omega) ?_)
          intro v' w2 hown3 hgrow _
          have hB3 : Below (w.heap.size + 1) w1 w2 := (hB2.alloc (by omega) _).grown hgrow (by simp; omega) (fun j hj => (hown2.lt j hj).1)
          clear hgrow hown2 c1 c2 c3 c4 b0 b1 b2 b3
          go_wp2
          go_roundw
          case rel => exact ⟨k + 1, out ++ [(yp, yd, ye, yt)], by omega, by go_num, hB3, by simpa using hown3, by simp; omega, .inl ⟨rfl, by rw [HTK.out, HO.out], HW.out⟩⟩
          case measure => simp [intOf]; omega
        · have HW := Lib.hid (HEQ.out HALL.out he)
          rw [hc] at CO
          clear hc he
          go_wp2
          (refine wp_region_later (by kernel_rfl) (by kernel_rfl) ?_; (repeat (go_big_quiet_step ((go_at_call 31; exact LaterOf.call _ (CO _))))); refine wpQuiet_nil ?_; intro _ hw1; obtain ⟨lw, hw2⟩ := hw1; subst hw2)
          obtain ⟨hB2, hown2, ⟨c1, c2, c3, c4⟩, b0, b1, b2, b3⟩ := HFACTS.out lw
          clear HFACTS
          generalize lw.world = wq at *
          have hq2 : w.heap.size + 1 ≤ wq.heap.size := by have := hB2.size; omega
          go_wp2_with (at_builtin; refine wpList_append_own _ rfl _ _ 22 rfl (w.heap.size + 1) 32 i0 (.agg #[.string ⟨#[]⟩, .bool false, .bool false, .string ⟨#[]⟩]) 4 40 Tryd.underlying22 hi hz0 hz1 hz2 rfl (by decide) _ _ _ rfl (hown2.alloc _) ⟨wq.heap.size, 0, none⟩ 1 1 [S p, .bool dd, .bool ex, S dt] rfl rfl (new_cells4 _ _ _ _ _ _) (it4_one (p, dd, ex, dt)) (by unfold maxLen; omega) (by omega) (by simp; omega) ?_)
          intro v' w2 hown3 hgrow _
          have hB3 : Below (w.heap.size + 1) w1 w2 := (hB2.alloc (by omega) _).grown hgrow (by simp; omega) (fun j hj => (hown2.lt j hj).1)
          clear hgrow hown2 c1 c2 c3 c4 b0 b1 b2 b3
          go_wp2
          go_roundw
          case rel => exact ⟨k + 1, out ++ [(p, dd, ex, dt)], by omega, by go_num, hB3, by simpa using hown3, by simp; omega, .inr ⟨rfl, by rw [HW.out.1, HO.out], HW.out.2⟩⟩
          case measure => simp [intOf]; omega
        · have HW := Lib.hid (HGT.out HALL.out hgt)
          rw [hc] at CO
          clear hc hgt
          go_wp2
          (refine wp_region_later (by kernel_rfl) (by kernel_rfl) ?_; (repeat (go_big_quiet_step ((go_at_call 31; exact LaterOf.call _ (CO _))))); refine wpQuiet_nil ?_; intro _ hw1; obtain ⟨lw, hw2⟩ := hw1; subst hw2)
          obtain ⟨hB2, hown2, ⟨c1, c2, c3, c4⟩, b0, b1, b2, b3⟩ := HFACTS.out lw
          clear HFACTS
          generalize lw.world = wq at *
          have hq2 : w.heap.size + 1 ≤ wq.heap.size := by have := hB2.size; omega
          go_wp2_with (at_builtin; refine wpList_append_own _ rfl _ _ 22 rfl (w.heap.size + 1) 32 i0 (.agg #[.string ⟨#[]⟩, .bool false, .bool false, .string ⟨#[]⟩]) 4 40 Tryd.underlying22 hi hz0 hz1 hz2 rfl (by decide) _ _ _ rfl (hown2.alloc _) ⟨wq.heap.size, 0, none⟩ 1 1 [S p, .bool dd, .bool ex, S dt] rfl rfl (new_cells4 _ _ _ _ _ _) (it4_one (p, dd, ex, dt)) (by unfold maxLen; omega) (by omega) (by simp; omega) ?_)
          intro v' w2 hown3 hgrow _
          have hB3 : Below (w.heap.size + 1) w1 w2 := (hB2.alloc (by omega) _).grown hgrow (by simp; omega) (fun j hj => (hown2.lt j hj).1)
          clear c1 c2 c3 c4 b0 b1 b2 b3
          have hq3 : w.heap.size + 1 ≤ w2.heap.size := by have := hB3.size; omega
          have hBW2 : Below w.heap.size w w2 := hB1.trans (hB3.mono (by omega))
          have c1 := cell_below hBW2 HY1.out
          have c2 := cell_below hBW2 HY2.out
          have c3 := cell_below hBW2 HY3.out
          have c4 := cell_below hBW2 HY4.out
          clear hgrow hown2 hBW2
          go_wp2_with (at_builtin; refine wpList_append_own _ rfl _ _ 22 rfl (w.heap.size + 1) 32 i0 (.agg #[.string ⟨#[]⟩, .bool false, .bool false, .string ⟨#[]⟩]) 4 40 Tryd.underlying22 hi hz0 hz1 hz2 rfl (by decide) _ _ _ rfl (hown3.alloc _) ⟨w2.heap.size, 0, none⟩ 1 1 [S yp, .bool yd, .bool ye, S yt] rfl rfl (new_cells4 _ _ _ _ _ _) (it4_one (yp, yd, ye, yt)) (by unfold maxLen; omega) (by omega) (by simp; omega) ?_)
          intro v3 w3 hown4 hgrow _
          have hB4 : Below (w.heap.size + 1) w1 w3 := (hB3.alloc (by omega) _).grown hgrow (by simp; omega) (fun j hj => (hown3.lt j hj).1)
          clear hgrow hown3 c1 c2 c3 c4
          go_wp2
          go_roundw
          case rel => exact ⟨k + 1, out ++ [(p, dd, ex, dt)] ++ [(yp, yd, ye, yt)], by omega, by go_num, hB4, by simpa using hown4, by simp; omega, .inr ⟨rfl, by rw [HW.out.1, HO.out], HW.out.2⟩⟩
          case measure => simp [intOf]; omega
      · have HI := Lib.hid hins
        have HAL := Lib.hid (show ltP p yp = true ∧ ∀ y ∈ l.drop (k + 1), ltP p y.1 = true from ⟨hall (yp, yd, ye, yt) (by rw [HDK.out]; simp), fun y hy => hall y (by rw [HDK.out]; simp [hy])⟩)
        clear hins hall
        rcases h3 with ⟨-, -, h9, -⟩ | ⟨-, -, h9, -⟩ | ⟨hc, -, -, -⟩
        · rw [HAL.out.1] at h9; cases h9
        · rw [HAL.out.1] at h9; cases h9
        rw [hc] at CO
        clear hc
        go_wp2
        (refine wp_region_later (by kernel_rfl) (by kernel_rfl) ?_; (repeat (go_big_quiet_step ((go_at_call 31; exact LaterOf.call _ (CO _))))); refine wpQuiet_nil ?_; intro _ hw1; obtain ⟨lw, hw2⟩ := hw1; subst hw2)
        obtain ⟨hB2, hown2, ⟨c1, c2, c3, c4⟩, b0, b1, b2, b3⟩ := HFACTS.out lw
        clear HFACTS
        generalize lw.world = wq at *
        have hq2 : w.heap.size + 1 ≤ wq.heap.size := by have := hB2.size; omega
        go_wp2_with (at_builtin; refine wpList_append_own _ rfl _ _ 22 rfl (w.heap.size + 1) 32 i0 (.agg #[.string ⟨#[]⟩, .bool false, .bool false, .string ⟨#[]⟩]) 4 40 Tryd.underlying22 hi hz0 hz1 hz2 rfl (by decide) _ _ _ rfl (hown2.alloc _) ⟨wq.heap.size, 0, none⟩ 1 1 [S yp, .bool yd, .bool ye, S yt] rfl rfl (new_cells4 _ _ _ _ _ _) (it4_one (yp, yd, ye, yt)) (by unfold maxLen; omega) (by omega) (by simp; omega) ?_)
        intro v' w2 hown3 hgrow _
        have hB3 : Below (w.heap.size + 1) w1 w2 := (hB2.alloc (by omega) _).grown hgrow (by simp; omega) (fun j hj => (hown2.lt j hj).1)
        clear hgrow hown2 c1 c2 c3 c4 b0 b1 b2 b3
        go_wp2
        go_roundw
        case rel => exact ⟨k + 1, out ++ [(yp, yd, ye, yt)], by omega, by go_num, hB3, by simpa using hown3, by simp; omega, .inr ⟨rfl, by rw [HI.out, HDK.out]; simp, HAL.out.2⟩⟩
        case measure => simp [intOf]; omega
    · have h1' : ¬ (k : Int) < (l.length : Int) := by omega
      have b0 := (hBR.cell (p := ⟨w.heap.size, 0, none⟩) (by simp)).trans r0
      have b1 := (hBR.cell (p := ⟨w.heap.size, 1, none⟩) (by simp)).trans r1
      have b2 := (hBR.cell (p := ⟨w.heap.size, 2, none⟩) (by simp)).trans r2
      have b3 := (hBR.cell (p := ⟨w.heap.size, 3, none⟩) (by simp)).trans r3
      rcases hst with ⟨rfl, hout, hall⟩ | ⟨rfl, hins, hall⟩
      · have HE := Lib.hid (show withT l (p, dd, ex, dt) = out ++ [(p, dd, ex, dt)] by
          rw [List.take_of_length_le (by omega)] at hout hall
          rw [hout]; exact with_end hall)
        clear hout hall
        go_wp2_with (at_builtin; refine wpList_append_own _ rfl _ _ 22 rfl (w.heap.size + 1) 32 i0 (.agg #[.string ⟨#[]⟩, .bool false, .bool false, .string ⟨#[]⟩]) 4 40 Tryd.underlying22 hi hz0 hz1 hz2 rfl (by decide) _ _ _ rfl (hown.alloc _) ⟨wr.heap.size, 0, none⟩ 1 1 [S p, .bool dd, .bool ex, S dt] rfl rfl (new_cells4 _ _ _ _ _ _) (it4_one (p, dd, ex, dt)) (by unfold maxLen; omega) (by omega) (by simp; omega) ?_)
        intro v' w2 hown' hgrow _
        have hB2 : Below (w.heap.size + 1) w1 w2 := (hBR.alloc (by omega) _).grown hgrow (by simp; omega) (fun j hj => (hown.lt j hj).1)
        have HR := Lib.hid (Row.of_ownsK itC_len (l := out ++ [(p, dd, ex, dt)]) (by simpa using hown'))
        clear hgrow hown hBR b0 b1 b2 b3 hown'
        go_wp2
        go_ret
        exact ⟨_, rfl, by rw [HE.out]; exact HR.out, hB1.trans (hB2.mono (by omega))⟩
      · have HE := Lib.hid (show withT l (p, dd, ex, dt) = out by rw [hins, List.drop_eq_nil_of_le (by omega), List.append_nil])
        have HR := Lib.hid (Row.of_ownsK itC_len hown)
        clear hins hall
        go_wp2
        go_ret
        exact ⟨_, rfl, by rw [HE.out]; exact HR.out, hB1.trans (hBR.mono (by omega))⟩
end Go.Proofs.YtdkmnolljllddaaDoor
