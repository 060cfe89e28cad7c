/- The reference's rows with a file. -/
import Derived.Test.YthjoaoakadaieaaRPlace
import Derived.Test.YthjoaoakadaieaaSorted
namespace Go.Proofs.Ythjoaoakadaieaa
open Go.RowKit

section
variable {α : Type} {key : α → List UInt8}
theorem filt_all {L : List α} {f : α} (h : ∀ x ∈ L, key x < key f) : L.filter (fun y => decide (key y < key f)) = L := by
  rw [List.filter_eq_self]; intro x hx; simpa using h x hx
theorem filt_none {L : List α} {f : α} (h : ∀ x ∈ L, key x < key f) : L.filter (fun y => decide (key f < key y)) = [] := by
  rw [List.filter_eq_nil_iff]; intro x hx; simp only [decide_eq_true_eq]; exact fun h2 => List.lt_asymm (h x hx) h2
theorem with_end {L : List α} {f : α} (h : ∀ x ∈ L, key x < key f) : withK key L f = L ++ [f] := by
  unfold withK
  rw [filt_all h, filt_none h]
theorem with_first {L : List α} {f y : α} (h : ∀ x ∈ L, key x < key f) (hy : ¬ key y < key f) : withK key (L ++ [y]) f = L ++ [f] ++ (if (key y == key f) = true then [] else [y]) := by
  unfold withK
  rw [List.filter_append, List.filter_append, filt_all h, filt_none h]
  by_cases e : key y = key f
  · simp [e, List.lt_irrefl]
  · have hl : key f < key y := by
      by_cases h1 : key f < key y
      · exact h1
      · exact absurd (List.le_antisymm (List.not_lt.1 h1) (List.not_lt.1 hy)) e
    simp [e, hy, hl]
theorem with_more {L : List α} {f y : α} (hy : key f < key y) : withK key (L ++ [y]) f = withK key L f ++ [y] := by
  unfold withK
  rw [List.filter_append, List.filter_append]
  have h2 : ¬ key y < key f := List.lt_asymm hy
  simp [hy, h2]
theorem with_len (L : List α) (f : α) : (withK key L f).length ≤ L.length + 1 := by
  unfold withK
  have h : ∀ L : List α, (L.filter (fun y => decide (key y < key f))).length + (L.filter (fun y => decide (key f < key y))).length ≤ L.length := by
    intro L
    induction L with
    | nil => simp
    | cons x xs ih =>
      by_cases h1 : key x < key f
      · have h2 : ¬ key f < key x := List.lt_asymm h1
        simp [h1, h2]; omega
      · by_cases h2 : key f < key x
        · simp [h1, h2]; omega
        · simp [h1, h2]; omega
  have := h L
  simp only [List.length_append, List.length_cons]; omega
theorem up_last {l : List α} {k : Nat} (hu : upS (l.map key)) (h : k < l.length) : ∀ x ∈ l.take k, key x < key l[k] := by
  intro x hx
  have h2 := hu
  unfold upS at h2
  rw [List.pairwise_map] at h2
  obtain ⟨i, hi, rfl⟩ := List.mem_take_iff_getElem.1 hx
  exact List.pairwise_iff_getElem.1 h2 i k _ h (by omega)
end

theorem own_base {w : World} {B B' e K n : Nat} {v : Value} {xs : List Value} (h : w.ownsRow B e K v n xs) (hB : B' ≤ B) : w.ownsRow B' e K v n xs := by
  obtain ⟨h1, h2⟩ := h
  refine ⟨h1, ?_⟩
  rcases h2 with h2 | ⟨g, cap, cur, hv, hb, h3⟩
  · exact .inl h2
  · exact .inr ⟨g, cap, cur, hv, by omega, h3⟩
/-- Where the loop stands. -/
def WithSt (l : List DF) (f : DF) (k : Nat) (d : Value) (out : List DF) : Prop :=
  (d = .bool false ∧ out = l.take k ∧ ∀ x ∈ l.take k, x.name < f.name) ∨ (d = .bool true ∧ out = withK DF.name (l.take k) f ∧ ∃ x ∈ l.take k, ¬ x.name < f.name)
theorem with_start (l : List DF) (f : DF) : WithSt l f 0 (.bool false) [] := .inl ⟨rfl, by simp, by simp⟩
theorem with_less {l : List DF} {f y : DF} {k : Nat} {out : List DF} (h : k < l.length) (hy : l[k] = y) (hs : WithSt l f k (.bool false) out) (hl : y.name < f.name) : WithSt l f (k + 1) (.bool false) (out ++ [y]) := by
  rcases hs with ⟨_, h1, h2⟩ | ⟨h1, _⟩
  · refine .inl ⟨rfl, by rw [List.take_succ_eq_append_getElem h, h1, hy], fun x hx => ?_⟩
    rw [List.take_succ_eq_append_getElem h, List.mem_append] at hx
    rcases hx with hx | hx
    · exact h2 x hx
    · simp only [List.mem_singleton] at hx; rw [hx, hy]; exact hl
  · cases h1
theorem with_put {l : List DF} {f y : DF} {k : Nat} {out : List DF} (h : k < l.length) (hy : l[k] = y) (hs : WithSt l f k (.bool false) out) (hl : ¬ y.name < f.name) : WithSt l f (k + 1) (.bool true) (out ++ [f] ++ (if (y.name == f.name) = true then [] else [y])) := by
  rcases hs with ⟨_, h1, h2⟩ | ⟨h1, _⟩
  · refine .inr ⟨rfl, by rw [List.take_succ_eq_append_getElem h, h1, hy, with_first h2 hl], y, ?_, hl⟩
    rw [List.take_succ_eq_append_getElem h, hy]; simp
  · cases h1
theorem with_on {l : List DF} {f y : DF} {k : Nat} {out : List DF} (hu : upS (l.map DF.name)) (h : k < l.length) (hy : l[k] = y) (hs : WithSt l f k (.bool true) out) : f.name < y.name ∧ WithSt l f (k + 1) (.bool true) (out ++ [y]) := by
  rcases hs with ⟨h1, _⟩ | ⟨_, h1, x, hx, h2⟩
  · cases h1
  · have h3 := up_last (key := DF.name) hu h x hx
    have h4 : f.name < y.name := by
      rw [hy] at h3
      exact List.lt_of_le_of_lt (List.not_lt.1 h2) h3
    refine ⟨h4, .inr ⟨rfl, by rw [List.take_succ_eq_append_getElem h, h1, hy, with_more h4], x, ?_, h2⟩⟩
    rw [List.take_succ_eq_append_getElem h, List.mem_append]; exact .inl hx

theorem withK_memR {l : List DF} {f x : DF} (h : x ∈ withK DF.name l f) : x = f ∨ x ∈ l := by
  unfold withK at h
  rcases List.mem_append.1 h with h | h
  · exact .inr (List.mem_filter.1 h).1
  · rcases List.mem_cons.1 h with h | h
    · exact .inl h
    · exact .inr (List.mem_filter.1 h).1

set_option maxHeartbeats 4000000 in
set_option maxRecDepth 100000 in
theorem rwith_walk (v : Value) (l : List DF) (f : DF) (w : World) (hr : FilesR w v l) (hf : OpRow w f.ov f.ops) (hcnt : l.length ≤ 1000000) (hup : upS (l.map DF.name)) :
    Calls Try.prog 65 #[v, DFV f] w fun e w' => ∃ v', e = .returned v' ∧ w'.ownsRow w.heap.size 50 3 v' (withK DF.name l f).length ((withK DF.name l f).flatMap dfC) ∧ Below w.heap.size w w' := by
  have hops := hr.2
  obtain ⟨⟨a, c, rfl, hc, hm, hx⟩, _⟩ := hr
  have HX := Lib.hid hx
  have HO := Lib.hid hops
  have HUP := Lib.hid hup
  have HFO := Lib.hid hf
  clear hx hops hup
  obtain ⟨i0, hi, hz0, hz1, hz2⟩ := info_parts infoDF
  obtain ⟨fn, fd, fov, fos⟩ := f
  obtain ⟨oa, oc, hov, _⟩ := hf
  simp only at hov
  subst hov
  obtain ⟨w0, hw0, hB0, hx0⟩ : ∃ w0, w0 = w.alloc (.cells #[S fn, S fd, .slice oa fos.length oc] 50) ∧ Below w.heap.size w w0 ∧ w0.heap[w.heap.size]? = some (.cells #[S fn, S fd, .slice oa fos.length oc] 50 (0, 0)) := ⟨_, rfl, (Below.refl _ _).alloc (Nat.le_refl _) _, heap_alloc_new _ _⟩
  go_enter Try.func65, Try.ntmps65
  go_upto_region 4 with fail
  rw [← hw0]
  clear hw0
  go_loopw [5, 6, 7] (fun v d i wr => ∃ (k : Nat) (out : List DF), k ≤ l.length ∧ i = .int .i64 k ∧ WithSt l ⟨fn, fd, .slice oa fos.length oc, fos⟩ k d out ∧ wr.ownsRow w0.heap.size 50 3 v out.length (out.flatMap dfC) ∧ out.length ≤ k + 1 ∧ Below w0.heap.size w0 wr) (fun _ _ i _ => l.length - (intOf i).toNat)
  case atStart => exact ⟨0, [], Nat.zero_le _, rfl, with_start _ _, World.ownsRow_nil _ _ _ _, by simp, Below.refl _ _⟩
  case round =>
    obtain ⟨k, out, hk, rfl, hst, hown, hdk, hB⟩ := hrel
    have hsz := hB.size
    have hBw := below_chain hB0 hB hB0.size
    have hxr := (hB.block _ (heap_lt hx0)).trans hx0
    have hd0 := heap_cell hxr (j := 0) (v := S fn) rfl
    have hd1 := heap_cell hxr (j := 1) (v := S fd) rfl
    have hd2 := heap_cell hxr (j := 2) (v := .slice oa fos.length oc) rfl
    by_cases h1 : k < l.length
    · have hx := HX.out
      rcases hx with hx | ⟨b, o, rfl, hx⟩
      · exfalso; rw [hx] at h1; simp at h1
      obtain ⟨hx1, hx2, hx3⟩ := df_cells hx h1
      have hc1 := cell_below hBw hx1
      have hc2 := cell_below hBw hx2
      have hc3 := cell_below hBw hx3
      have hov := oprow_one (HO.out l[k] (by simp))
      obtain ⟨y, hy⟩ : ∃ y, l[k] = y := ⟨_, rfl⟩
      have HST := Lib.hid hst
      have HY := Lib.hid hy
      rw [hy] at hc1 hc2 hc3 hov
      clear hx hx1 hx2 hx3 hy
      obtain ⟨nm, dt, ov, os⟩ := y
      simp only at hc1 hc2 hc3 hov
      have h1' : (k : Int) < (l.length : Int) := by omega
      have hcase : (u6 = .bool false) ∨ (u6 = .bool true) := by
        rcases hst with ⟨h, _⟩ | ⟨h, _⟩
        · exact .inl h
        · exact .inr h
      clear hst
      rcases hcase with rfl | rfl
      · have hdk2 : out.length ≤ k := by
          rcases HST.out with ⟨_, h, _⟩ | ⟨h, _⟩
          · rw [h, List.length_take]; omega
          · cases h
        rcases three_ways nm fn with ⟨_, hlt, hbl, _, hne⟩ | ⟨_, heq, hbl, _, hne⟩ | ⟨_, hlt, hbl, _, hne⟩
        · have HS := Lib.hid (with_less h1 HY.out HST.out hlt)
          clear hlt HST
          go_wp2
          go_quiet (fail)
          go_wp2
          go_quiet (fail)
          go_wp2_with (at_builtin; refine wpList_append_own _ rfl _ _ 33 rfl w0.heap.size 50 i0 (.agg #[.string ⟨#[]⟩, .string ⟨#[]⟩, .slice none 0 0]) 3 56 Try.underlying33 hi hz0 hz1 hz2 rfl (by decide) _ _ _ rfl (hown.alloc _) ⟨wr.heap.size, 0, none⟩ 1 1 [S nm, S dt, ov] rfl rfl (new_cells3 _ _ _ _ _) (df3_one hov) (by unfold maxLen; omega) (by omega) (by simp; omega) ?_)
          intro v' w1 hown' hgrow _
          have hB1 : Below w0.heap.size w0 w1 := ((belowN hB _).alloc hsz _).grown hgrow (by simp; omega) (fun j hj => (hown.lt j hj).1)
          clear hgrow hown hB hc1 hc2 hc3 hd0 hd1 hd2
          go_wp2
          go_roundw
          case rel => exact ⟨k + 1, _, by omega, by go_num, HS.out, by simpa using hown', by simp; omega, hB1⟩
          case measure => simp [intOf]; omega
        · have HS := Lib.hid (with_put h1 HY.out HST.out (show ¬ nm < fn by rw [heq]; exact List.lt_irrefl _))
          have HS2 := Lib.hid (show (if (nm == fn) = true then ([] : List DF) else [⟨nm, dt, ov, os⟩]) = [] from if_pos hne)
          clear heq HST
          go_wp2
          go_quiet (fail)
          go_wp2_with (at_builtin; refine wpList_append_own _ rfl _ _ 33 rfl w0.heap.size 50 i0 (.agg #[.string ⟨#[]⟩, .string ⟨#[]⟩, .slice none 0 0]) 3 56 Try.underlying33 hi hz0 hz1 hz2 rfl (by decide) _ _ _ rfl (hown.alloc _) ⟨wr.heap.size, 0, none⟩ 1 1 [S fn, S fd, .slice oa fos.length oc] rfl rfl (new_cells3 _ _ _ _ _) (df3_one rfl) (by unfold maxLen; omega) (by omega) (by simp; omega) ?_)
          intro v' w1 hown' hgrow _
          have hB1 : Below w0.heap.size w0 w1 := ((belowN hB _).alloc hsz _).grown hgrow (by simp; omega) (fun j hj => (hown.lt j hj).1)
          have hxr1 := (hB1.block _ (heap_lt hx0)).trans hx0
          have hf0 := heap_cell hxr1 (j := 0) (v := S fn) rfl
          have hBw1 := below_chain hB0 hB1 hB0.size
          have hx := HX.out
          rcases hx with hx | ⟨b2, o2, hbo, hx⟩
          · exfalso; rw [hx] at h1; simp at h1
          cases hbo
          obtain ⟨hx1, hx2, hx3⟩ := df_cells hx h1
          have hy1 := cell_below hBw1 hx1
          have hy2 := cell_below hBw1 hx2
          have hy3 := cell_below hBw1 hx3
          rw [HY.out] at hy1 hy2 hy3
          simp only at hy1 hy2 hy3
          clear hx hx1 hx2 hx3 hgrow hown hB hc1 hc2 hc3 hd0 hd1 hd2
          go_wp2
          go_quiet (fail)
          go_wp2
          go_roundw
          case rel => exact ⟨k + 1, _, by omega, by go_num, by have h9 := HS.out; rw [show (if ((⟨nm, dt, ov, os⟩ : DF).name == (⟨fn, fd, .slice oa fos.length oc, fos⟩ : DF).name) = true then ([] : List DF) else [⟨nm, dt, ov, os⟩]) = [] from HS2.out, List.append_nil] at h9; exact h9, by show World.ownsRow w1 _ _ _ _ _ _; simpa using hown', by simp; omega, belowN hB1 _⟩
          case measure => simp [intOf]; omega
        · have HS := Lib.hid (with_put h1 HY.out HST.out (show ¬ nm < fn from List.lt_asymm hlt))
          have HS2 := Lib.hid (show (if (nm == fn) = true then ([] : List DF) else [⟨nm, dt, ov, os⟩]) = [⟨nm, dt, ov, os⟩] from if_neg (by rw [hne]; simp))
          clear hlt HST
          go_wp2
          go_quiet (fail)
          go_wp2_with (at_builtin; refine wpList_append_own _ rfl _ _ 33 rfl w0.heap.size 50 i0 (.agg #[.string ⟨#[]⟩, .string ⟨#[]⟩, .slice none 0 0]) 3 56 Try.underlying33 hi hz0 hz1 hz2 rfl (by decide) _ _ _ rfl (hown.alloc _) ⟨wr.heap.size, 0, none⟩ 1 1 [S fn, S fd, .slice oa fos.length oc] rfl rfl (new_cells3 _ _ _ _ _) (df3_one rfl) (by unfold maxLen; omega) (by omega) (by simp; omega) ?_)
          intro v' w1 hown' hgrow _
          have hB1 : Below w0.heap.size w0 w1 := ((belowN hB _).alloc hsz _).grown hgrow (by simp; omega) (fun j hj => (hown.lt j hj).1)
          have hsz1 := hB1.size
          have hxr1 := (hB1.block _ (heap_lt hx0)).trans hx0
          have hf0 := heap_cell hxr1 (j := 0) (v := S fn) rfl
          have hBw1 := below_chain hB0 hB1 hB0.size
          have hx := HX.out
          rcases hx with hx | ⟨b2, o2, hbo, hx⟩
          · exfalso; rw [hx] at h1; simp at h1
          cases hbo
          obtain ⟨hx1, hx2, hx3⟩ := df_cells hx h1
          have hy1 := cell_below hBw1 hx1
          have hy2 := cell_below hBw1 hx2
          have hy3 := cell_below hBw1 hx3
          rw [HY.out] at hy1 hy2 hy3
          simp only at hy1 hy2 hy3
          clear hx hx1 hx2 hx3 hgrow hown hB hc1 hc2 hc3 hd0 hd1 hd2
          go_wp2
          go_quiet (fail)
          go_wp2_with (at_builtin; refine wpList_append_own _ rfl _ _ 33 rfl w0.heap.size 50 i0 (.agg #[.string ⟨#[]⟩, .string ⟨#[]⟩, .slice none 0 0]) 3 56 Try.underlying33 hi hz0 hz1 hz2 rfl (by decide) _ _ _ rfl (hown'.alloc _) ⟨w1.heap.size, 0, none⟩ 1 1 [S nm, S dt, ov] rfl rfl (new_cells3 _ _ _ _ _) (df3_one hov) (by unfold maxLen; omega) (by omega) (by simp; omega) ?_)
          intro v'' w2 hown2 hgrow2 _
          have hB2 : Below w0.heap.size w0 w2 := ((belowN hB1 _).alloc hsz1 _).grown hgrow2 (by simp; omega) (fun j hj => (hown'.lt j hj).1)
          clear hgrow2 hown' hB1 hf0
          go_wp2
          go_roundw
          case rel => exact ⟨k + 1, _, by omega, by go_num, by have h9 := HS.out; rw [show (if ((⟨nm, dt, ov, os⟩ : DF).name == (⟨fn, fd, .slice oa fos.length oc, fos⟩ : DF).name) = true then ([] : List DF) else [⟨nm, dt, ov, os⟩]) = [⟨nm, dt, ov, os⟩] from HS2.out] at h9; exact h9, by simpa using hown2, by simp; omega, hB2⟩
          case measure => simp [intOf]; omega
      · obtain ⟨hlt, hS⟩ := with_on HUP.out h1 HY.out HST.out
        have HS := Lib.hid hS
        have hne : (nm == fn) = false := by rw [beq_eq_false_iff_ne]; intro e; rw [e] at hlt; exact List.lt_irrefl _ hlt
        clear hlt hS HST
        go_wp2
        go_quiet (fail)
        go_wp2
        go_quiet (fail)
        go_wp2_with (at_builtin; refine wpList_append_own _ rfl _ _ 33 rfl w0.heap.size 50 i0 (.agg #[.string ⟨#[]⟩, .string ⟨#[]⟩, .slice none 0 0]) 3 56 Try.underlying33 hi hz0 hz1 hz2 rfl (by decide) _ _ _ rfl (hown.alloc _) ⟨wr.heap.size, 0, none⟩ 1 1 [S nm, S dt, ov] rfl rfl (new_cells3 _ _ _ _ _) (df3_one hov) (by unfold maxLen; omega) (by omega) (by simp; omega) ?_)
        intro v' w1 hown' hgrow _
        have hB1 : Below w0.heap.size w0 w1 := ((belowN hB _).alloc hsz _).grown hgrow (by simp; omega) (fun j hj => (hown.lt j hj).1)
        clear hgrow hown hB hc1 hc2 hc3 hd0 hd1 hd2
        go_wp2
        go_roundw
        case rel => exact ⟨k + 1, _, by omega, by go_num, HS.out, by simpa using hown', by simp; omega, hB1⟩
        case measure => simp [intOf]; omega
    · have h1' : ¬ (k : Int) < (l.length : Int) := by omega
      obtain rfl : k = l.length := by omega
      have hst2 := hst
      rcases hst2 with ⟨rfl, h2, h3⟩ | ⟨rfl, h2, _⟩
      · rw [List.take_of_length_le (Nat.le_refl _)] at h2 h3
        have HW := Lib.hid (show withK DF.name l ⟨fn, fd, .slice oa fos.length oc, fos⟩ = out ++ [⟨fn, fd, .slice oa fos.length oc, fos⟩] by rw [h2]; exact with_end h3)
        clear hst h2 h3
        go_wp2_with (at_builtin; refine wpList_append_own _ rfl _ _ 33 rfl w0.heap.size 50 i0 (.agg #[.string ⟨#[]⟩, .string ⟨#[]⟩, .slice none 0 0]) 3 56 Try.underlying33 hi hz0 hz1 hz2 rfl (by decide) _ _ _ rfl (hown.alloc _) ⟨wr.heap.size, 0, none⟩ 1 1 [S fn, S fd, .slice oa fos.length oc] rfl rfl (new_cells3 _ _ _ _ _) (df3_one rfl) (by unfold maxLen; omega) (by omega) (by simp; omega) ?_)
        intro v' w1 hown' hgrow _
        have hB1 : Below w0.heap.size w0 w1 := (hB.alloc hsz _).grown hgrow (by simp; omega) (fun j hj => (hown.lt j hj).1)
        have hBw1 := below_chain hB0 hB1 hB0.size
        clear hgrow hown hB hd0 hd1 hd2
        go_wp2
        go_ret
        refine ⟨_, rfl, ?_, hBw1⟩
        rw [HW.out]; exact own_base (by simpa using hown') hB0.size
      · rw [List.take_of_length_le (Nat.le_refl _)] at h2
        have HW := Lib.hid h2
        clear hst h2
        go_wp2
        go_ret
        refine ⟨_, rfl, ?_, hBw⟩
        rw [← HW.out]; exact own_base hown hB0.size

set_option maxHeartbeats 2000000 in
set_option maxRecDepth 100000 in
theorem rwithoutO_walk (v : Value) (l : List DF) (n : List UInt8) (w : World) (hr : FilesR w v l) (hcnt : l.length ≤ 1000000) :
    Calls Try.prog 66 #[v, S n] w fun e w' => ∃ v', e = .returned v' ∧ w'.ownsRow w.heap.size 50 3 v' (withoutK DF.name l n).length ((withoutK DF.name l n).flatMap dfC) ∧ Below w.heap.size w w' := by
  have hops := hr.2
  obtain ⟨⟨a, c, rfl, hc, hm, hx⟩, _⟩ := hr
  have HX := Lib.hid hx
  have HO := Lib.hid hops
  clear hx hops
  obtain ⟨i0, hi, hz0, hz1, hz2⟩ := info_parts infoDF
  go_enter Try.func66, Try.ntmps66
  go_wp2
  go_loopw [5, 6] (fun v i wr => ∃ k : Nat, k ≤ l.length ∧ i = .int .i64 k ∧ wr.ownsRow w.heap.size 50 3 v (withoutK DF.name (l.take k) n).length ((withoutK DF.name (l.take k) n).flatMap dfC) ∧ (withoutK DF.name (l.take k) n).length ≤ k ∧ Below w.heap.size w wr) (fun _ i _ => l.length - (intOf i).toNat)
  case atStart => exact ⟨0, Nat.zero_le _, rfl, World.ownsRow_nil _ _ _ _, by simp [withoutK], Below.refl _ _⟩
  case round =>
    obtain ⟨k, hk, rfl, hown, hdk, hB⟩ := hrel
    have hsz := hB.size
    by_cases h1 : k < l.length
    · have hx := HX.out
      rcases hx with hx | ⟨b, o, rfl, hx⟩
      · exfalso; rw [hx] at h1; simp at h1
      obtain ⟨hx1, hx2, hx3⟩ := df_cells hx h1
      have hc1 := cell_below hB hx1
      have hc2 := cell_below hB hx2
      have hc3 := cell_below hB hx3
      have HS := Lib.hid (without_step (n := n) h1)
      have hov := oprow_one (HO.out l[k] (by simp))
      clear hx hx1 hx2 hx3
      generalize l[k] = y at *
      obtain ⟨nm, dt, ov, os⟩ := y
      simp only at hc1 hc2 hc3 HS hov
      have h1' : (k : Int) < (l.length : Int) := by omega
      generalize withoutK DF.name (l.take k) n = dn at *
      obtain ⟨q, hq⟩ : ∃ q, (nm == n) = q := ⟨_, rfl⟩
      cases q with
      | true =>
        have HS1 := Lib.hid (show withoutK DF.name (l.take (k + 1)) n = dn by rw [HS.out, if_pos hq, List.append_nil])
        have hpp : (nm != n) = false := by rw [bne, hq]; rfl
        clear HS
        go_wp2
        go_roundw
        case rel => exact ⟨k + 1, by omega, by go_num, by rw [HS1.out]; exact hown, by rw [HS1.out]; omega, hB⟩
        case measure => simp [intOf]; omega
      | false =>
        have HS1 := Lib.hid (show withoutK DF.name (l.take (k + 1)) n = dn ++ [⟨nm, dt, ov, os⟩] by rw [HS.out, if_neg (by rw [hq]; simp)])
        have hpp : (nm != n) = true := by rw [bne, hq]; rfl
        clear HS
        go_wp2_with (at_builtin; refine wpList_append_own _ rfl _ _ 33 rfl w.heap.size 50 i0 (.agg #[.string ⟨#[]⟩, .string ⟨#[]⟩, .slice none 0 0]) 3 56 Try.underlying33 hi hz0 hz1 hz2 rfl (by decide) _ _ _ rfl (hown.alloc _) ⟨wr.heap.size, 0, none⟩ 1 1 [S nm, S dt, ov] rfl rfl (new_cells3 _ _ _ _ _) (df3_one hov) (by unfold maxLen; omega) (by omega) (by simp; omega) ?_)
        intro v' w1 hown' hgrow _
        have hB1 : Below w.heap.size w w1 := (hB.alloc hsz _).grown hgrow (by simp; omega) (fun j hj => (hown.lt j hj).1)
        clear hgrow hown hB hc1 hc2 hc3
        go_wp2
        go_roundw
        case rel => exact ⟨k + 1, by omega, by go_num, by rw [HS1.out]; simpa using hown', by rw [HS1.out]; simp; omega, hB1⟩
        case measure => simp [intOf]; omega
    · have h1' : ¬ (k : Int) < (l.length : Int) := by omega
      rw [List.take_of_length_le (by omega)] at hown
      have HOW := Lib.hid hown
      clear hown
      go_wp2
      go_ret
      exact ⟨_, rfl, HOW.out, hB⟩
end Go.Proofs.Ythjoaoakadaieaa
