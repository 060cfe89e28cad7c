/- The reference's rows with a file. The reference's read, and its power. The reference's Remove. The reference's Rename. Regions that draw their order: a quick test that the first m operations come ahead of all others. No program in sight. The reference's Sync. The reference's Write. -/
import Derived.Test.YthjoaoakadaieaaRPlace
import Derived.Test.YthjoaoakadaieaaSorted
import Derived.Test.YthjoaoakadaieaaRLay
import Derived.Test.YthjoaoakadaieaaPRd15
import Derived.Test.YthjoaoakadaieaaAwake15
import Derived.Test.YthjoaoakadaieaaMSet
import Derived.Test.YthjoaoakadaieaaRName
import Derived.Test.YthjoaoakadaieaaAny
import Derived.Test.YthjoaoakadaieaaHeld
import Derived.Test.YthjoaoakadaieaaTail
import Derived.Test.YthjoaoakadaieaaPWrite
namespace Go.Proofs.Ythjoaoakadaieaa
open Go.RowKit

section
variable {α : Type} {key : α → List UInt8}
theorem filt_all {L : List α} {f : α} (h : ∀ x ∈ L, key x < key f) : L.filter (fun y => decide (key y < key f)) = L := by
  rw [List.filter_eq_self]; intro x hx; simpa using h x hx
theorem filt_none {L : List α} {f : α} (h : ∀ x ∈ L, key x < key f) : L.filter (fun y => decide (key f < key y)) = [] := by
  rw [List.filter_eq_nil_iff]; intro x hx; simp only [decide_eq_true_eq]; exact fun h2 => List.lt_asymm (h x hx) h2
theorem with_end {L : List α} {f : α} (h : ∀ x ∈ L, key x < key f) : withK key L f = L ++ [f] := by
  unfold withK
  rw [filt_all h, filt_none h]
theorem with_first {L : List α} {f y : α} (h : ∀ x ∈ L, key x < key f) (hy : ¬ key y < key f) : withK key (L ++ [y]) f = L ++ [f] ++ (if (key y == key f) = true then [] else [y]) := by
  unfold withK
  rw [List.filter_append, List.filter_append, filt_all h, filt_none h]
  by_cases e : key y = key f
  · simp [e, List.lt_irrefl]
  · have hl : key f < key y := by
      by_cases h1 : key f < key y
      · exact h1
      · exact absurd (List.le_antisymm (List.not_lt.1 h1) (List.not_lt.1 hy)) e
    simp [e, hy, hl]
theorem with_more {L : List α} {f y : α} (hy : key f < key y) : withK key (L ++ [y]) f = withK key L f ++ [y] := by
  unfold withK
  rw [List.filter_append, List.filter_append]
  have h2 : ¬ key y < key f := List.lt_asymm hy
  simp [hy, h2]
theorem with_len (L : List α) (f : α) : (withK key L f).length ≤ L.length + 1 := by
  unfold withK
  have h : ∀ L : List α, (L.filter (fun y => decide (key y < key f))).length + (L.filter (fun y => decide (key f < key y))).length ≤ L.length := by
    intro L
    induction L with
    | nil => simp
    | cons x xs ih =>
      by_cases h1 : key x < key f
      · have h2 : ¬ key f < key x := List.lt_asymm h1
        simp [h1, h2]; omega
      · by_cases h2 : key f < key x
        · simp [h1, h2]; omega
        · simp [h1, h2]; omega
  have := h L
  simp only [List.length_append, List.length_cons]; omega
theorem up_last {l : List α} {k : Nat} (hu : upS (l.map key)) (h : k < l.length) : ∀ x ∈ l.take k, key x < key l[k] := by
  intro x hx
  have h2 := hu
  unfold upS at h2
  rw [List.pairwise_map] at h2
  obtain ⟨i, hi, rfl⟩ := List.mem_take_iff_getElem.1 hx
  exact List.pairwise_iff_getElem.1 h2 i k _ h (by omega)
end

theorem own_base {w : World} {B B' e K n : Nat} {v : Value} {xs : List Value} (h : w.ownsRow B e K v n xs) (hB : B' ≤ B) : w.ownsRow B' e K v n xs := by
  obtain ⟨h1, h2⟩ := h
  refine ⟨h1, ?_⟩
  rcases h2 with h2 | ⟨g, cap, cur, hv, hb, h3⟩
  · exact .inl h2
  · exact .inr ⟨g, cap, cur, hv, by omega, h3⟩
/-- Where the loop stands. -/
def WithSt (l : List DF) (f : DF) (k : Nat) (d : Value) (out : List DF) : Prop :=
  (d = .bool false ∧ out = l.take k ∧ ∀ x ∈ l.take k, x.name < f.name) ∨ (d = .bool true ∧ out = withK DF.name (l.take k) f ∧ ∃ x ∈ l.take k, ¬ x.name < f.name)
theorem with_start (l : List DF) (f : DF) : WithSt l f 0 (.bool false) [] := .inl ⟨rfl, by simp, by simp⟩
theorem with_less {l : List DF} {f y : DF} {k : Nat} {out : List DF} (h : k < l.length) (hy : l[k] = y) (hs : WithSt l f k (.bool false) out) (hl : y.name < f.name) : WithSt l f (k + 1) (.bool false) (out ++ [y]) := by
  rcases hs with ⟨_, h1, h2⟩ | ⟨h1, _⟩
  · refine .inl ⟨rfl, by rw [List.take_succ_eq_append_getElem h, h1, hy], fun x hx => ?_⟩
    rw [List.take_succ_eq_append_getElem h, List.mem_append] at hx
    rcases hx with hx | hx
    · exact h2 x hx
    · simp only [List.mem_singleton] at hx; rw [hx, hy]; exact hl
  · cases h1
theorem with_put {l : List DF} {f y : DF} {k : Nat} {out : List DF} (h : k < l.length) (hy : l[k] = y) (hs : WithSt l f k (.bool false) out) (hl : ¬ y.name < f.name) : WithSt l f (k + 1) (.bool true) (out ++ [f] ++ (if (y.name == f.name) = true then [] else [y])) := by
  rcases hs with ⟨_, h1, h2⟩ | ⟨h1, _⟩
  · refine .inr ⟨rfl, by rw [List.take_succ_eq_append_getElem h, h1, hy, with_first h2 hl], y, ?_, hl⟩
    rw [List.take_succ_eq_append_getElem h, hy]; simp
  · cases h1
theorem with_on {l : List DF} {f y : DF} {k : Nat} {out : List DF} (hu : upS (l.map DF.name)) (h : k < l.length) (hy : l[k] = y) (hs : WithSt l f k (.bool true) out) : f.name < y.name ∧ WithSt l f (k + 1) (.bool true) (out ++ [y]) := by
  rcases hs with ⟨h1, _⟩ | ⟨_, h1, x, hx, h2⟩
  · cases h1
  · have h3 := up_last (key := DF.name) hu h x hx
    have h4 : f.name < y.name := by
      rw [hy] at h3
      exact List.lt_of_le_of_lt (List.not_lt.1 h2) h3
    refine ⟨h4, .inr ⟨rfl, by rw [List.take_succ_eq_append_getElem h, h1, hy, with_more h4], x, ?_, h2⟩⟩
    rw [List.take_succ_eq_append_getElem h, List.mem_append]; exact .inl hx

theorem withK_memR {l : List DF} {f x : DF} (h : x ∈ withK DF.name l f) : x = f ∨ x ∈ l := by
  unfold withK at h
  rcases List.mem_append.1 h with h | h
  · exact .inr (List.mem_filter.1 h).1
  · rcases List.mem_cons.1 h with h | h
    · exact .inl h
    · exact .inr (List.mem_filter.1 h).1

set_option maxHeartbeats 4000000 in
set_option maxRecDepth 100000 in
theorem rwith_walk (v : Value) (l : List DF) (f : DF) (w : World) (hr : FilesR w v l) (hf : OpRow w f.ov f.ops) (hcnt : l.length ≤ 1000000) (hup : upS (l.map DF.name)) :
    Calls Try.prog 65 #[v, DFV f] w fun e w' => ∃ v', e = .returned v' ∧ w'.ownsRow w.heap.size 50 3 v' (withK DF.name l f).length ((withK DF.name l f).flatMap dfC) ∧ Below w.heap.size w w' := by
  have hops := hr.2
  obtain ⟨⟨a, c, rfl, hc, hm, hx⟩, _⟩ := hr
  have HX := Lib.hid hx
  have HO := Lib.hid hops
  have HUP := Lib.hid hup
  have HFO := Lib.hid hf
  clear hx hops hup
  obtain ⟨i0, hi, hz0, hz1, hz2⟩ := info_parts infoDF
  obtain ⟨fn, fd, fov, fos⟩ := f
  obtain ⟨oa, oc, hov, _⟩ := hf
  simp only at hov
  subst hov
  obtain ⟨w0, hw0, hB0, hx0⟩ : ∃ w0, w0 = w.alloc (.cells #[S fn, S fd, .slice oa fos.length oc] 50) ∧ Below w.heap.size w w0 ∧ w0.heap[w.heap.size]? = some (.cells #[S fn, S fd, .slice oa fos.length oc] 50 (0, 0)) := ⟨_, rfl, (Below.refl _ _).alloc (Nat.le_refl _) _, heap_alloc_new _ _⟩
  go_enter Try.func65, Try.ntmps65
  go_upto_region 4 with fail
  rw [← hw0]
  clear hw0
  go_loopw [5, 6, 7] (fun v d i wr => ∃ (k : Nat) (out : List DF), k ≤ l.length ∧ i = .int .i64 k ∧ WithSt l ⟨fn, fd, .slice oa fos.length oc, fos⟩ k d out ∧ wr.ownsRow w0.heap.size 50 3 v out.length (out.flatMap dfC) ∧ out.length ≤ k + 1 ∧ Below w0.heap.size w0 wr) (fun _ _ i _ => l.length - (intOf i).toNat)
  case atStart => exact ⟨0, [], Nat.zero_le _, rfl, with_start _ _, World.ownsRow_nil _ _ _ _, by simp, Below.refl _ _⟩
  case round =>
    obtain ⟨k, out, hk, rfl, hst, hown, hdk, hB⟩ := hrel
    have hsz := hB.size
    have hBw := below_chain hB0 hB hB0.size
    have hxr := (hB.block _ (heap_lt hx0)).trans hx0
    have hd0 := heap_cell hxr (j := 0) (v := S fn) rfl
    have hd1 := heap_cell hxr (j := 1) (v := S fd) rfl
    have hd2 := heap_cell hxr (j := 2) (v := .slice oa fos.length oc) rfl
    by_cases h1 : k < l.length
    · have hx := HX.out
      rcases hx with hx | ⟨b, o, rfl, hx⟩
      · exfalso; rw [hx] at h1; simp at h1
      obtain ⟨hx1, hx2, hx3⟩ := df_cells hx h1
      have hc1 := cell_below hBw hx1
      have hc2 := cell_below hBw hx2
      have hc3 := cell_below hBw hx3
      have hov := oprow_one (HO.out l[k] (by simp))
      obtain ⟨y, hy⟩ : ∃ y, l[k] = y := ⟨_, rfl⟩
      have HST := Lib.hid hst
      have HY := Lib.hid hy
      rw [hy] at hc1 hc2 hc3 hov
      clear hx hx1 hx2 hx3 hy
      obtain ⟨nm, dt, ov, os⟩ := y
      simp only at hc1 hc2 hc3 hov
      have h1' : (k : Int) < (l.length : Int) := by omega
      have hcase : (u6 = .bool false) ∨ (u6 = .bool true) := by
        rcases hst with ⟨h, _⟩ | ⟨h, _⟩
        · exact .inl h
        · exact .inr h
      clear hst
      rcases hcase with rfl | rfl
      · have hdk2 : out.length ≤ k := by
          rcases HST.out with ⟨_, h, _⟩ | ⟨h, _⟩
          · rw [h, List.length_take]; omega
          · cases h
        rcases three_ways nm fn with ⟨_, hlt, hbl, _, hne⟩ | ⟨_, heq, hbl, _, hne⟩ | ⟨_, hlt, hbl, _, hne⟩
        · have HS := Lib.hid (with_less h1 HY.out HST.out hlt)
          clear hlt HST
          go_wp2
          go_quiet (fail)
          go_wp2
          go_quiet (fail)
          go_wp2_with (at_builtin; refine wpList_append_own _ rfl _ _ 33 rfl w0.heap.size 50 i0 (.agg #[.string ⟨#[]⟩, .string ⟨#[]⟩, .slice none 0 0]) 3 56 Try.underlying33 hi hz0 hz1 hz2 rfl (by decide) _ _ _ rfl (hown.alloc _) ⟨wr.heap.size, 0, none⟩ 1 1 [S nm, S dt, ov] rfl rfl (new_cells3 _ _ _ _ _) (df3_one hov) (by unfold maxLen; omega) (by omega) (by simp; omega) ?_)
          intro v' w1 hown' hgrow _
          have hB1 : Below w0.heap.size w0 w1 := ((belowN hB _).alloc hsz _).grown hgrow (by simp; omega) (fun j hj => (hown.lt j hj).1)
          clear hgrow hown hB hc1 hc2 hc3 hd0 hd1 hd2
          go_wp2
          go_roundw
          case rel => exact ⟨k + 1, _, by omega, by go_num, HS.out, by simpa using hown', by simp; omega, hB1⟩
          case measure => simp [intOf]; omega
        · have HS := Lib.hid (with_put h1 HY.out HST.out (show ¬ nm < fn by rw [heq]; exact List.lt_irrefl _))
          have HS2 := Lib.hid (show (if (nm == fn) = true then ([] : List DF) else [⟨nm, dt, ov, os⟩]) = [] from if_pos hne)
          clear heq HST
          go_wp2
          go_quiet (fail)
          go_wp2_with (at_builtin; refine wpList_append_own _ rfl _ _ 33 rfl w0.heap.size 50 i0 (.agg #[.string ⟨#[]⟩, .string ⟨#[]⟩, .slice none 0 0]) 3 56 Try.underlying33 hi hz0 hz1 hz2 rfl (by decide) _ _ _ rfl (hown.alloc _) ⟨wr.heap.size, 0, none⟩ 1 1 [S fn, S fd, .slice oa fos.length oc] rfl rfl (new_cells3 _ _ _ _ _) (df3_one rfl) (by unfold maxLen; omega) (by omega) (by simp; omega) ?_)
          intro v' w1 hown' hgrow _
          have hB1 : Below w0.heap.size w0 w1 := ((belowN hB _).alloc hsz _).grown hgrow (by simp; omega) (fun j hj => (hown.lt j hj).1)
          have hxr1 := (hB1.block _ (heap_lt hx0)).trans hx0
          have hf0 := heap_cell hxr1 (j := 0) (v := S fn) rfl
          have hBw1 := below_chain hB0 hB1 hB0.size
          have hx := HX.out
          rcases hx with hx | ⟨b2, o2, hbo, hx⟩
          · exfalso; rw [hx] at h1; simp at h1
          cases hbo
          obtain ⟨hx1, hx2, hx3⟩ := df_cells hx h1
          have hy1 := cell_below hBw1 hx1
          have hy2 := cell_below hBw1 hx2
          have hy3 := cell_below hBw1 hx3
          rw [HY.out] at hy1 hy2 hy3
          simp only at hy1 hy2 hy3
          clear hx hx1 hx2 hx3 hgrow hown hB hc1 hc2 hc3 hd0 hd1 hd2
          go_wp2
          go_quiet (fail)
          go_wp2
          go_roundw
          case rel => exact ⟨k + 1, _, by omega, by go_num, by have h9 := HS.out; rw [show (if ((⟨nm, dt, ov, os⟩ : DF).name == (⟨fn, fd, .slice oa fos.length oc, fos⟩ : DF).name) = true then ([] : List DF) else [⟨nm, dt, ov, os⟩]) = [] from HS2.out, List.append_nil] at h9; exact h9, by show World.ownsRow w1 _ _ _ _ _ _; simpa using hown', by simp; omega, belowN hB1 _⟩
          case measure => simp [intOf]; omega
        · have HS := Lib.hid (with_put h1 HY.out HST.out (show ¬ nm < fn from List.lt_asymm hlt))
          have HS2 := Lib.hid (show (if (nm == fn) = true then ([] : List DF) else [⟨nm, dt, ov, os⟩]) = [⟨nm, dt, ov, os⟩] from if_neg (by rw [hne]; simp))
          clear hlt HST
          go_wp2
          go_quiet (fail)
          go_wp2_with (at_builtin; refine wpList_append_own _ rfl _ _ 33 rfl w0.heap.size 50 i0 (.agg #[.string ⟨#[]⟩, .string ⟨#[]⟩, .slice none 0 0]) 3 56 Try.underlying33 hi hz0 hz1 hz2 rfl (by decide) _ _ _ rfl (hown.alloc _) ⟨wr.heap.size, 0, none⟩ 1 1 [S fn, S fd, .slice oa fos.length oc] rfl rfl (new_cells3 _ _ _ _ _) (df3_one rfl) (by unfold maxLen; omega) (by omega) (by simp; omega) ?_)
          intro v' w1 hown' hgrow _
          have hB1 : Below w0.heap.size w0 w1 := ((belowN hB _).alloc hsz _).grown hgrow (by simp; omega) (fun j hj => (hown.lt j hj).1)
          have hsz1 := hB1.size
          have hxr1 := (hB1.block _ (heap_lt hx0)).trans hx0
          have hf0 := heap_cell hxr1 (j := 0) (v := S fn) rfl
          have hBw1 := below_chain hB0 hB1 hB0.size
          have hx := HX.out
          rcases hx with hx | ⟨b2, o2, hbo, hx⟩
          · exfalso; rw [hx] at h1; simp at h1
          cases hbo
          obtain ⟨hx1, hx2, hx3⟩ := df_cells hx h1
          have hy1 := cell_below hBw1 hx1
          have hy2 := cell_below hBw1 hx2
          have hy3 := cell_below hBw1 hx3
          rw [HY.out] at hy1 hy2 hy3
          simp only at hy1 hy2 hy3
          clear hx hx1 hx2 hx3 hgrow hown hB hc1 hc2 hc3 hd0 hd1 hd2
          go_wp2
          go_quiet (fail)
          go_wp2_with (at_builtin; refine wpList_append_own _ rfl _ _ 33 rfl w0.heap.size 50 i0 (.agg #[.string ⟨#[]⟩, .string ⟨#[]⟩, .slice none 0 0]) 3 56 Try.underlying33 hi hz0 hz1 hz2 rfl (by decide) _ _ _ rfl (hown'.alloc _) ⟨w1.heap.size, 0, none⟩ 1 1 [S nm, S dt, ov] rfl rfl (new_cells3 _ _ _ _ _) (df3_one hov) (by unfold maxLen; omega) (by omega) (by simp; omega) ?_)
          intro v'' w2 hown2 hgrow2 _
          have hB2 : Below w0.heap.size w0 w2 := ((belowN hB1 _).alloc hsz1 _).grown hgrow2 (by simp; omega) (fun j hj => (hown'.lt j hj).1)
          clear hgrow2 hown' hB1 hf0
          go_wp2
          go_roundw
          case rel => exact ⟨k + 1, _, by omega, by go_num, by have h9 := HS.out; rw [show (if ((⟨nm, dt, ov, os⟩ : DF).name == (⟨fn, fd, .slice oa fos.length oc, fos⟩ : DF).name) = true then ([] : List DF) else [⟨nm, dt, ov, os⟩]) = [⟨nm, dt, ov, os⟩] from HS2.out] at h9; exact h9, by simpa using hown2, by simp; omega, hB2⟩
          case measure => simp [intOf]; omega
      · obtain ⟨hlt, hS⟩ := with_on HUP.out h1 HY.out HST.out
        have HS := Lib.hid hS
        have hne : (nm == fn) = false := by rw [beq_eq_false_iff_ne]; intro e; rw [e] at hlt; exact List.lt_irrefl _ hlt
        clear hlt hS HST
        go_wp2
        go_quiet (fail)
        go_wp2
        go_quiet (fail)
        go_wp2_with (at_builtin; refine wpList_append_own _ rfl _ _ 33 rfl w0.heap.size 50 i0 (.agg #[.string ⟨#[]⟩, .string ⟨#[]⟩, .slice none 0 0]) 3 56 Try.underlying33 hi hz0 hz1 hz2 rfl (by decide) _ _ _ rfl (hown.alloc _) ⟨wr.heap.size, 0, none⟩ 1 1 [S nm, S dt, ov] rfl rfl (new_cells3 _ _ _ _ _) (df3_one hov) (by unfold maxLen; omega) (by omega) (by simp; omega) ?_)
        intro v' w1 hown' hgrow _
        have hB1 : Below w0.heap.size w0 w1 := ((belowN hB _).alloc hsz _).grown hgrow (by simp; omega) (fun j hj => (hown.lt j hj).1)
        clear hgrow hown hB hc1 hc2 hc3 hd0 hd1 hd2
        go_wp2
        go_roundw
        case rel => exact ⟨k + 1, _, by omega, by go_num, HS.out, by simpa using hown', by simp; omega, hB1⟩
        case measure => simp [intOf]; omega
    · have h1' : ¬ (k : Int) < (l.length : Int) := by omega
      obtain rfl : k = l.length := by omega
      have hst2 := hst
      rcases hst2 with ⟨rfl, h2, h3⟩ | ⟨rfl, h2, _⟩
      · rw [List.take_of_length_le (Nat.le_refl _)] at h2 h3
        have HW := Lib.hid (show withK DF.name l ⟨fn, fd, .slice oa fos.length oc, fos⟩ = out ++ [⟨fn, fd, .slice oa fos.length oc, fos⟩] by rw [h2]; exact with_end h3)
        clear hst h2 h3
        go_wp2_with (at_builtin; refine wpList_append_own _ rfl _ _ 33 rfl w0.heap.size 50 i0 (.agg #[.string ⟨#[]⟩, .string ⟨#[]⟩, .slice none 0 0]) 3 56 Try.underlying33 hi hz0 hz1 hz2 rfl (by decide) _ _ _ rfl (hown.alloc _) ⟨wr.heap.size, 0, none⟩ 1 1 [S fn, S fd, .slice oa fos.length oc] rfl rfl (new_cells3 _ _ _ _ _) (df3_one rfl) (by unfold maxLen; omega) (by omega) (by simp; omega) ?_)
        intro v' w1 hown' hgrow _
        have hB1 : Below w0.heap.size w0 w1 := (hB.alloc hsz _).grown hgrow (by simp; omega) (fun j hj => (hown.lt j hj).1)
        have hBw1 := below_chain hB0 hB1 hB0.size
        clear hgrow hown hB hd0 hd1 hd2
        go_wp2
        go_ret
        refine ⟨_, rfl, ?_, hBw1⟩
        rw [HW.out]; exact own_base (by simpa using hown') hB0.size
      · rw [List.take_of_length_le (Nat.le_refl _)] at h2
        have HW := Lib.hid h2
        clear hst h2
        go_wp2
        go_ret
        refine ⟨_, rfl, ?_, hBw⟩
        rw [← HW.out]; exact own_base hown hB0.size

set_option maxHeartbeats 2000000 in
set_option maxRecDepth 100000 in
theorem rwithoutO_walk (v : Value) (l : List DF) (n : List UInt8) (w : World) (hr : FilesR w v l) (hcnt : l.length ≤ 1000000) :
    Calls Try.prog 66 #[v, S n] w fun e w' => ∃ v', e = .returned v' ∧ w'.ownsRow w.heap.size 50 3 v' (withoutK DF.name l n).length ((withoutK DF.name l n).flatMap dfC) ∧ Below w.heap.size w w' := by
  have hops := hr.2
  obtain ⟨⟨a, c, rfl, hc, hm, hx⟩, _⟩ := hr
  have HX := Lib.hid hx
  have HO := Lib.hid hops
  clear hx hops
  obtain ⟨i0, hi, hz0, hz1, hz2⟩ := info_parts infoDF
  go_enter Try.func66, Try.ntmps66
  go_wp2
  go_loopw [5, 6] (fun v i wr => ∃ k : Nat, k ≤ l.length ∧ i = .int .i64 k ∧ wr.ownsRow w.heap.size 50 3 v (withoutK DF.name (l.take k) n).length ((withoutK DF.name (l.take k) n).flatMap dfC) ∧ (withoutK DF.name (l.take k) n).length ≤ k ∧ Below w.heap.size w wr) (fun _ i _ => l.length - (intOf i).toNat)
  case atStart => exact ⟨0, Nat.zero_le _, rfl, World.ownsRow_nil _ _ _ _, by simp [withoutK], Below.refl _ _⟩
  case round =>
    obtain ⟨k, hk, rfl, hown, hdk, hB⟩ := hrel
    have hsz := hB.size
    by_cases h1 : k < l.length
    · have hx := HX.out
      rcases hx with hx | ⟨b, o, rfl, hx⟩
      · exfalso; rw [hx] at h1; simp at h1
      obtain ⟨hx1, hx2, hx3⟩ := df_cells hx h1
      have hc1 := cell_below hB hx1
      have hc2 := cell_below hB hx2
      have hc3 := cell_below hB hx3
      have HS := Lib.hid (without_step (n := n) h1)
      have hov := oprow_one (HO.out l[k] (by simp))
      clear hx hx1 hx2 hx3
      generalize l[k] = y at *
      obtain ⟨nm, dt, ov, os⟩ := y
      simp only at hc1 hc2 hc3 HS hov
      have h1' : (k : Int) < (l.length : Int) := by omega
      generalize withoutK DF.name (l.take k) n = dn at *
      obtain ⟨q, hq⟩ : ∃ q, (nm == n) = q := ⟨_, rfl⟩
      cases q with
      | true =>
        have HS1 := Lib.hid (show withoutK DF.name (l.take (k + 1)) n = dn by rw [HS.out, if_pos hq, List.append_nil])
        have hpp : (nm != n) = false := by rw [bne, hq]; rfl
        clear HS
        go_wp2
        go_roundw
        case rel => exact ⟨k + 1, by omega, by go_num, by rw [HS1.out]; exact hown, by rw [HS1.out]; omega, hB⟩
        case measure => simp [intOf]; omega
      | false =>
        have HS1 := Lib.hid (show withoutK DF.name (l.take (k + 1)) n = dn ++ [⟨nm, dt, ov, os⟩] by rw [HS.out, if_neg (by rw [hq]; simp)])
        have hpp : (nm != n) = true := by rw [bne, hq]; rfl
        clear HS
        go_wp2_with (at_builtin; refine wpList_append_own _ rfl _ _ 33 rfl w.heap.size 50 i0 (.agg #[.string ⟨#[]⟩, .string ⟨#[]⟩, .slice none 0 0]) 3 56 Try.underlying33 hi hz0 hz1 hz2 rfl (by decide) _ _ _ rfl (hown.alloc _) ⟨wr.heap.size, 0, none⟩ 1 1 [S nm, S dt, ov] rfl rfl (new_cells3 _ _ _ _ _) (df3_one hov) (by unfold maxLen; omega) (by omega) (by simp; omega) ?_)
        intro v' w1 hown' hgrow _
        have hB1 : Below w.heap.size w w1 := (hB.alloc hsz _).grown hgrow (by simp; omega) (fun j hj => (hown.lt j hj).1)
        clear hgrow hown hB hc1 hc2 hc3
        go_wp2
        go_roundw
        case rel => exact ⟨k + 1, by omega, by go_num, by rw [HS1.out]; simpa using hown', by rw [HS1.out]; simp; omega, hB1⟩
        case measure => simp [intOf]; omega
    · have h1' : ¬ (k : Int) < (l.length : Int) := by omega
      rw [List.take_of_length_le (by omega)] at hown
      have HOW := Lib.hid hown
      clear hown
      go_wp2
      go_ret
      exact ⟨_, rfl, HOW.out, hB⟩
end Go.Proofs.Ythjoaoakadaieaa

namespace Go.Proofs.Ythjoaoakadaieaa
open Go.RowKit

theorem place_in {l : List DF} {n : List UInt8} (hu : upS (l.map DF.name)) (h : n ∈ l.map DF.name) : placeD l n = (posL (l.map DF.name) n : Nat) := by
  obtain ⟨hk, he⟩ := pos_lt (key := DF.name) hu h
  refine idxP_at hk (fun x hx => ?_) (by simpa using he)
  have h1 := up_last (key := DF.name) hu hk x hx
  rw [he] at h1
  rw [beq_eq_false_iff_ne]
  intro e; rw [e] at h1; exact List.lt_irrefl _ h1
theorem place_out {l : List DF} {n : List UInt8} (h : n ∉ l.map DF.name) : placeD l n = -1 := idxP_none (fun x hx => by
  rw [beq_eq_false_iff_ne]; intro e; exact h (by rw [← e]; exact List.mem_map_of_mem hx))

set_option maxHeartbeats 2000000 in
set_option maxRecDepth 100000 in
theorem rread15_walk (v : Value) (off : Bool) (fuse : Int) (l : List DF) (n : List UInt8) (w : World) (hr : FilesR w v l) (hcnt : l.length ≤ 1000000) (hup : upS (l.map DF.name)) (hok : ∀ x ∈ l, badF x.lo = false) :
    Calls Try.prog 30 #[DiskV v off fuse, S n] w fun e w' => e = .returned (.tuple #[S (readD (los l, off, fuse) n).1, .bool (readD (los l, off, fuse) n).2]) ∧ Below w.heap.size w w' := by
  have hr0 := hr
  obtain ⟨⟨a, c, rfl, hc, hm, hx⟩, hops⟩ := hr
  have HX := Lib.hid hx
  have HO := Lib.hid hops
  obtain ⟨w0, hw0, hB0, hx0⟩ : ∃ w0, w0 = w.alloc (.cells #[.slice a l.length c, .bool off, .int .i64 fuse] 35) ∧ Below w.heap.size w w0 ∧ w0.heap[w.heap.size]? = some (.cells #[.slice a l.length c, .bool off, .int .i64 fuse] 35 (0, 0)) := ⟨_, rfl, (Below.refl _ _).alloc (Nat.le_refl _) _, heap_alloc_new _ _⟩
  have C := rplace_walk (.slice a l.length c) off fuse l n w0 (hr0.below hB0).1 hcnt
  clear hx hops
  by_cases hin : n ∈ l.map DF.name
  · obtain ⟨hk, hnm, hf⟩ := findF_in hup hin
    rw [place_in hup hin] at C
    have HRD := Lib.hid (show readD (los l, off, fuse) n = (seenL l[posL (l.map DF.name) n].lo.2.1 l[posL (l.map DF.name) n].lo.2.2, true) by unfold readD; rw [hf])
    have hbad := hok l[posL (l.map DF.name) n] (by simp)
    have hopr := HO.out l[posL (l.map DF.name) n] (by simp)
    generalize posL (l.map DF.name) n = k at *
    clear hin hup hf hok hnm
    have hk' : (k : Int) < (l.length : Int) := by omega
    have hkn : ¬ (k : Int) < 0 := by omega
    have hx := HX.out
    rcases hx with hx | ⟨b, o, rfl, hx⟩
    · exfalso; rw [hx] at hk; simp at hk
    obtain ⟨hx1, hx2, hx3⟩ := df_cells hx hk
    clear hx
    generalize l[k] = y at *
    go_enter Try.func30, Try.ntmps30
    go_wp2_with fail
    rw [← hw0]
    clear hw0
    refine C.mono ?_
    rintro e w1 ⟨rfl, hb1⟩
    have hB1 := below_chain hB0 hb1 hB0.size
    have q0 := heap_cell ((hb1.block _ (heap_lt hx0)).trans hx0) (j := 0) (v := .slice (some ⟨b, o, none⟩) l.length c) rfl
    have hc1 := cell_below hB1 hx1
    have hc2 := cell_below hB1 hx2
    have hc3 := cell_below hB1 hx3
    have CS := rseen_walk y w1 (hopr.below hB1) hbad
    clear C hx1 hx2 hx3 hopr hbad
    obtain ⟨nm, dt, ov, os⟩ := y
    simp only at hc1 hc2 hc3 CS
    go_wp2_with fail
    refine CS.mono ?_
    rintro e w2 ⟨rfl, hb2⟩
    have hB2 := below_chain hB1 hb2 hB1.size
    go_wp2
    go_ret2
    exact ⟨by rw [HRD.out]; rfl, hB2⟩
  · rw [place_out hin] at C
    have HRD := Lib.hid (show readD (los l, off, fuse) n = ([], false) by unfold readD; rw [findF_out hin])
    clear hin hup hok
    go_enter Try.func30, Try.ntmps30
    go_wp2_with fail
    rw [← hw0]
    clear hw0
    refine C.mono ?_
    rintro e w1 ⟨rfl, hb1⟩
    have hB1 := below_chain hB0 hb1 hB0.size
    go_wp2
    go_ret2
    exact ⟨by rw [HRD.out]; rfl, hB1⟩

/-- What the reference's power leaves. -/
def PowPost (a : Option Addr) (n c : Nat) (off : Bool) (fuse : Int) (w : World) (e : Ending) (w' : World) : Prop :=
  ∃ off' fuse' err, e = .returned (.tuple #[DiskV (.slice a n c) off' fuse', .int .i64 err]) ∧ (∀ fs : List LF, powerD (fs, off, fuse) = ((fs, off', fuse'), err)) ∧ Below w.heap.size w w'

set_option maxHeartbeats 2000000 in
set_option maxRecDepth 100000 in
theorem rpower_walk (a : Option Addr) (n c : Nat) (off : Bool) (fuse : Int) (w : World) (hf1 : -1 ≤ fuse) (hf2 : fuse ≤ 1048576) :
    Calls Try.prog 64 #[DiskV (.slice a n c) off fuse] w (PowPost a n c off fuse w) := by
  have hb : ∀ X Y : Obj, Below w.heap.size w ((w.alloc X).alloc Y) := fun X Y => ((Below.refl _ _).alloc (Nat.le_refl _) X).alloc (by simp) Y
  by_cases hz : fuse = 0
  · subst hz
    go_enter Try.func64, Try.ntmps64
    go_wp2
    refine bodyPost_ret (v := .tuple #[DiskV (.slice a n c) true (-1), .int .i64 13]) (by simp [results, Try.results64, go_sem]) rfl ?_
    exact ⟨_, _, _, rfl, fun fs => by simp [powerD], hb _ _⟩
  · have hz' : (fuse == 0) = false := by rw [beq_eq_false_iff_ne]; exact hz
    by_cases hp : 0 < fuse
    · have hw1 : IntKind.i64.wrap (fuse - 1) = fuse - 1 := by rw [IntKind.wrap_i64]; omega
      go_enter Try.func64, Try.ntmps64
      go_wp2
      refine bodyPost_ret (v := .tuple #[DiskV (.slice a n c) off (fuse - 1), .int .i64 0]) (by simp [results, Try.results64, go_sem]) rfl ?_
      exact ⟨_, _, _, rfl, fun fs => by simp [powerD, hz]; omega, hb _ _⟩
    · go_enter Try.func64, Try.ntmps64
      go_wp2
      refine bodyPost_ret (v := .tuple #[DiskV (.slice a n c) off (fuse), .int .i64 0]) (by simp [results, Try.results64, go_sem]) rfl ?_
      exact ⟨_, _, _, rfl, fun fs => by simp [powerD, hz]; omega, hb _ _⟩
end Go.Proofs.Ythjoaoakadaieaa

namespace Go.Proofs.Ythjoaoakadaieaa
open Go.RowKit

/-- What an act of the reference leaves. -/
def RActPost (res : LD × Int) (w : World) (e : Ending) (w' : World) : Prop :=
  ∃ v' off' fuse' l' err, e = .returned (.tuple #[DiskV v' off' fuse', .int .i64 err]) ∧ FilesR w' v' l' ∧ res = ((los l', off', fuse'), err) ∧ Below w.heap.size w w'
theorem dcells {w : World} {b : Nat} {v : Value} {off : Bool} {fuse : Int} (h : w.heap[b]? = some (DCells v off fuse)) : w.cell? ⟨b, 0, none⟩ = some v ∧ w.cell? ⟨b, 1, none⟩ = some (.bool off) ∧ w.cell? ⟨b, 2, none⟩ = some (.int .i64 fuse) :=
  ⟨heap_cell h (j := 0) (v := v) rfl, heap_cell h (j := 1) (v := .bool off) rfl, heap_cell h (j := 2) (v := .int .i64 fuse) rfl⟩
theorem kept {w w' : World} {b : Nat} {X : Obj} (hb : Below w.heap.size w w') (h : w.heap[b]? = some X) : w'.heap[b]? = some X := (hb.block _ (heap_lt h)).trans h
/-- Three stores into a disk's block. -/
theorem dstore {w : World} {b : Nat} {v v' : Value} {off off' : Bool} {fuse fuse' : Int} (h : w.heap[b]? = some (DCells v off fuse)) :
    (((w.setCell ⟨b, 0, none⟩ v').setCell ⟨b, 1, none⟩ (.bool off')).setCell ⟨b, 2, none⟩ (.int .i64 fuse')).heap[b]? = some (DCells v' off' fuse') := by
  have h1 := heap_set_cell (o := 2) (heap_set_cell (o := 1) (heap_set_cell (o := 0) h v') (.bool off')) (.int .i64 fuse')
  simpa using h1
theorem dstore_size (w : World) (b : Nat) (x y z : Value) : (((w.setCell ⟨b, 0, none⟩ x).setCell ⟨b, 1, none⟩ y).setCell ⟨b, 2, none⟩ z).heap.size = w.heap.size := by simp [World.setCell]
theorem dstore_other {w : World} {b k : Nat} (hk : k ≠ b) (x y z : Value) : (((w.setCell ⟨b, 0, none⟩ x).setCell ⟨b, 1, none⟩ y).setCell ⟨b, 2, none⟩ z).heap[k]? = w.heap[k]? :=
  ((Below.heap_setCell _ _ _ _ hk).trans (Below.heap_setCell _ _ _ _ hk)).trans (Below.heap_setCell _ _ _ _ hk)
theorem dstore_below {w w' : World} {B b : Nat} (h : Below B w w') (hb : B ≤ b) (x y z : Value) : Below B w (((w'.setCell ⟨b, 0, none⟩ x).setCell ⟨b, 1, none⟩ y).setCell ⟨b, 2, none⟩ z) :=
  below_setC (below_setC (below_setC h hb 0 _) hb 1 _) hb 2 _
/-- One store into its first cell. -/
theorem dfirst {w : World} {b : Nat} {v v' : Value} {off : Bool} {fuse : Int} (h : w.heap[b]? = some (DCells v off fuse)) : (w.setCell ⟨b, 0, none⟩ v').heap[b]? = some (DCells v' off fuse) := by
  have h1 := heap_set_cell (o := 0) h v'
  simpa using h1
theorem act_power {ls fs : List LF} {off' : Bool} {fuse fuse' err : Int} (h : ∀ fs : List LF, powerD (fs, false, fuse) = ((fs, off', fuse'), err)) :
    (err = 0 → actD (ls, false, fuse) 0 fs = ((fs, off', fuse'), 0)) ∧ (err ≠ 0 → actD (ls, false, fuse) 0 fs = ((ls, off', fuse'), err)) := by
  have h1 := h fs
  have h2 := h ls
  unfold powerD at h1 h2
  unfold actD
  simp only at h1 h2 ⊢
  by_cases hz : fuse = 0
  · rw [if_pos hz] at h1 h2
    cases h2
    exact ⟨fun h => absurd h (by decide), fun _ => by simp [hz]⟩
  · rw [if_neg hz] at h1 h2
    cases h1
    exact ⟨fun _ => by simp [hz], fun h => absurd rfl h⟩
theorem own_row {w : World} {B : Nat} {v : Value} {l : List DF} (h : w.ownsRow B 50 3 v l.length (l.flatMap dfC)) : Row dfC w v l := Row.of_ownsK dfC_len h

set_option maxHeartbeats 8000000 in
set_option maxRecDepth 100000 in
theorem rremove_walk (v : Value) (off : Bool) (fuse : Int) (l : List DF) (n : List UInt8) (w : World) (hr : FilesR w v l) (hcnt : l.length ≤ 1000000) (hup : upS (l.map DF.name)) (hf1 : -1 ≤ fuse) (hf2 : fuse ≤ 1048576) :
    Calls Try.prog 34 #[DiskV v off fuse, S n] w (RActPost (removeD (los l, off, fuse) n) w) := by
  have HR := Lib.hid hr
  have HOPS := Lib.hid hr.2
  obtain ⟨⟨a, c, rfl, _⟩, _⟩ := hr
  have hwn : wrongN (los l, off, fuse) n = if decide (n ∈ l.map DF.name) = true then 0 else 5 := by
    unfold wrongN
    by_cases hin : n ∈ l.map DF.name
    · obtain ⟨hk, _, hf⟩ := findF_in hup hin
      rw [hf]; simp [hin]
    · rw [findF_out hin]; simp [hin]
  obtain ⟨w1, hw1, hB1, hx1, hy1⟩ : ∃ w1, w1 = (w.alloc (DCells (.slice a l.length c) off fuse)).alloc (DCells (.slice none 0 0) false 0) ∧ Below w.heap.size w w1 ∧ w1.heap[w.heap.size]? = some (DCells (.slice a l.length c) off fuse) ∧ w1.heap[w.heap.size + 1]? = some (DCells (.slice none 0 0) false 0) :=
    ⟨_, rfl, ((Below.refl _ _).alloc (Nat.le_refl _) _).alloc (by simp) _, (Below.heap_alloc _ _ _ (by simp)).trans (heap_alloc_new _ _), by have := heap_alloc_new (w.alloc (DCells (.slice a l.length c) off fuse)) (DCells (.slice none 0 0) false 0); simpa using this⟩
  have HW := Lib.hid (show removeD (los l, off, fuse) n = actD (los l, off, fuse) (wrongN (los l, off, fuse) n) (withoutF (los l) n) from rfl)
  rw [hwn] at HW
  generalize removeD (los l, off, fuse) n = res at *
  clear hwn
  obtain ⟨y0, y1, y2⟩ := dcells hx1
  obtain ⟨z0, z1, z2⟩ := dcells hy1
  have s0 := is_some z0
  have s1 := is_some z1
  have s2 := is_some z2
  have f0 := heap_free hy1 0
  have f1 := heap_free hy1 1
  have f2 := heap_free hy1 2
  cases off with
  | true =>
    go_enter Try.func34, Try.ntmps34
    go_upto_region 1 with fail
    rw [← hw1]
    clear hw1
    go_wp2
    refine bodyPost_ret (v := .tuple #[DiskV (.slice a l.length c) true fuse, .int .i64 13]) (by simp [results, Try.results34, go_sem, s0, s1, s2]) rfl ?_
    have hB2 := dstore_below hB1 (b := w.heap.size + 1) (by omega) (.slice a l.length c) (.bool true) (.int .i64 fuse)
    exact ⟨_, _, _, l, _, rfl, HR.out.below hB2, HW.out.trans (by simp [actD]), hB2⟩
  | false =>
    have C := rplace_walk (.slice a l.length c) false fuse l n w1 (HR.out.below hB1).1 hcnt
    by_cases hin : n ∈ l.map DF.name
    · rw [place_in hup hin] at C
      rw [show decide (n ∈ l.map DF.name) = true by simpa using hin, if_pos rfl] at HW
      generalize posL (l.map DF.name) n = k at *
      have hkn : ¬ (k : Int) < 0 := by omega
      clear hin hup s0 s1 s2 f0 f1 f2
      go_enter Try.func34, Try.ntmps34
      go_upto_region 1 with fail
      rw [← hw1]
      clear hw1
      go_wp2_with fail
      refine C.mono ?_
      rintro e w2 ⟨rfl, hb2⟩
      have hB2 := below_chain hB1 hb2 hB1.size
      have hx2 := kept hb2 hx1
      have hy2 := kept hb2 hy1
      clear C y0 y1 y2 z0 z1 z2 hx1 hy1 hB1 hb2
      obtain ⟨y0, y1, y2⟩ := dcells hx2
      have CP := rpower_walk a l.length c false fuse w2 hf1 hf2
      go_wp2_with fail
      refine CP.mono ?_
      rintro e w3 ⟨off', fuse', err, rfl, hpow, hb3⟩
      have hB3 := below_chain hB2 hb3 hB2.size
      have hx3 := kept hb3 hx2
      have hy3 := kept hb3 hy2
      clear CP y0 y1 y2 hx2 hy2 hB2 hb3
      have hbl := heap_lt hx3
      obtain ⟨w4, hw4, hx4, hy4, hB4⟩ : ∃ w4, w4 = (((w3.setCell ⟨w.heap.size, 0, none⟩ (.slice a l.length c)).setCell ⟨w.heap.size, 1, none⟩ (.bool off')).setCell ⟨w.heap.size, 2, none⟩ (.int .i64 fuse')) ∧ w4.heap[w.heap.size]? = some (DCells (.slice a l.length c) off' fuse') ∧ w4.heap[w.heap.size + 1]? = some (DCells (.slice none 0 0) false 0) ∧ Below w.heap.size w w4 :=
        ⟨_, rfl, dstore hx3, (dstore_other (by omega) _ _ _).trans hy3, dstore_below hB3 (Nat.le_refl _) _ _ _⟩
      obtain ⟨y0, y1, y2⟩ := dcells hx3
      have s0 := is_some y0
      have s1 := is_some y1
      have s2 := is_some y2
      have f0 := heap_free hx3 0
      have f1 := heap_free hx3 1
      have f2 := heap_free hx3 2
      have HACT := Lib.hid (act_power (ls := los l) (fs := withoutF (los l) n) hpow)
      clear hpow
      go_upto_region 6 with fail
      rw [← hw4]
      clear hw4 y0 y1 y2 s0 s1 s2 f0 f1 f2 hx3 hy3 hB3
      obtain ⟨y0, y1, y2⟩ := dcells hx4
      obtain ⟨z0, z1, z2⟩ := dcells hy4
      have s0 := is_some z0
      have s1 := is_some z1
      have s2 := is_some z2
      have f0 := heap_free hy4 0
      have f1 := heap_free hy4 1
      have f2 := heap_free hy4 2
      by_cases he : err = 0
      · subst he
        clear s0 s1 s2 f0 f1 f2 z0 z1 z2
        have CW := rwithoutO_walk (.slice a l.length c) l n w4 (HR.out.below hB4) hcnt
        go_wp2_with fail
        refine CW.mono ?_
        rintro e w5 ⟨v5, rfl, hown5, hb5⟩
        have hB5 := below_chain hB4 hb5 hB4.size
        have hx5 := kept hb5 hx4
        have hy5 := kept hb5 hy4
        have hl4 := heap_lt hx4
        have hl5 := heap_lt hy4
        obtain ⟨va, vn, vc, rfl⟩ := own_slice hown5
        have HOWN := Lib.hid hown5
        clear CW y0 y1 y2 hx4 hy4 hown5 hb5
        obtain ⟨y0, y1, y2⟩ := dcells hx5
        have r0 := is_some y0
        have g0 := heap_free hx5 0
        obtain ⟨z0, z1, z2⟩ := dcells hy5
        have s0 := is_some z0
        have s1 := is_some z1
        have s2 := is_some z2
        have f0 := heap_free hy5 0
        have f1 := heap_free hy5 1
        have f2 := heap_free hy5 2
        have hB6 := dstore_below (below_setC hB5 (Nat.le_refl _) 0 (.slice va vn vc)) (b := w.heap.size + 1) (by omega) (.slice va vn vc) (.bool off') (.int .i64 fuse')
        have HB6 := Lib.hid hB6
        clear hB6
        go_wp2
        refine bodyPost_ret (v := .tuple #[DiskV (.slice va vn vc) off' fuse', .int .i64 0]) (by simp [results, Try.results34, go_sem, s0, s1, s2]) rfl ?_
        refine ⟨_, _, _, withoutK DF.name l n, _, rfl, ⟨own_row (own_set (own_set (own_set (own_set HOWN.out hl4) hl5) hl5) hl5), fun x hx => (HOPS.out x (List.mem_filter.1 hx).1).below HB6.out⟩, ?_, HB6.out⟩
        rw [HW.out, HACT.out.1 (by simp)]
        exact congrArg (fun z => ((z, off', fuse'), (0 : Int))) (withoutK_map (key := DF.name) (key' := fun x : LF => x.1) (fun _ => rfl) l n).symm
      · have he' : (err != 0) = true := by rw [bne_iff_ne]; exact he
        have he2 : (err == 0) = false := by rw [beq_eq_false_iff_ne]; exact he
        go_wp2
        refine bodyPost_ret (v := .tuple #[DiskV (.slice a l.length c) off' fuse', .int .i64 err]) (by simp [results, Try.results34, go_sem, s0, s1, s2]) rfl ?_
        have hB5 := dstore_below hB4 (b := w.heap.size + 1) (by omega) (.slice a l.length c) (.bool off') (.int .i64 fuse')
        exact ⟨_, _, _, l, _, rfl, HR.out.below hB5, by rw [HW.out, HACT.out.2 he], hB5⟩
    · rw [place_out hin] at C
      rw [show decide (n ∈ l.map DF.name) = false by simpa using hin, if_neg (by simp)] at HW
      clear hin hup s0 s1 s2 f0 f1 f2
      go_enter Try.func34, Try.ntmps34
      go_upto_region 1 with fail
      rw [← hw1]
      clear hw1
      go_wp2_with fail
      refine C.mono ?_
      rintro e w2 ⟨rfl, hb2⟩
      have hB2 := below_chain hB1 hb2 hB1.size
      have hx2 := kept hb2 hx1
      have hy2 := kept hb2 hy1
      clear C y0 y1 y2 z0 z1 z2 hx1 hy1 hB1 hb2
      obtain ⟨y0, y1, y2⟩ := dcells hx2
      obtain ⟨z0, z1, z2⟩ := dcells hy2
      have s0 := is_some z0
      have s1 := is_some z1
      have s2 := is_some z2
      have f0 := heap_free hy2 0
      have f1 := heap_free hy2 1
      have f2 := heap_free hy2 2
      go_wp2
      refine bodyPost_ret (v := .tuple #[DiskV (.slice a l.length c) false fuse, .int .i64 5]) (by simp [results, Try.results34, go_sem, s0, s1, s2]) rfl ?_
      have hB3 := dstore_below hB2 (b := w.heap.size + 1) (by omega) (.slice a l.length c) (.bool false) (.int .i64 fuse)
      exact ⟨_, _, _, l, _, rfl, HR.out.below hB3, by rw [HW.out]; simp [actD], hB3⟩
end Go.Proofs.Ythjoaoakadaieaa

namespace Go.Proofs.Ythjoaoakadaieaa
open Go.RowKit

/-- Block b holds X. -/
def BoxS (b : Nat) (X : Obj) (w : World) : Prop := w.heap[b]? = some X

set_option maxHeartbeats 8000000 in
set_option maxRecDepth 100000 in
theorem rrename_walk (v : Value) (off : Bool) (fuse : Int) (l : List DF) (n m : List UInt8) (w : World) (hr : FilesR w v l) (hcnt : l.length ≤ 1000000) (hup : upS (l.map DF.name)) (hf1 : -1 ≤ fuse) (hf2 : fuse ≤ 1048576) (hml : m.length ≤ 1000000) :
    Calls Try.prog 33 #[DiskV v off fuse, S n, S m] w (RActPost (renameD (los l, off, fuse) n m) w) := by
  have HR := Lib.hid hr
  have HOPS := Lib.hid hr.2
  obtain ⟨⟨a, c, rfl, _⟩, _⟩ := hr
  have hwn : wrongN (los l, off, fuse) n = if decide (n ∈ l.map DF.name) = true then 0 else 5 := by
    unfold wrongN
    by_cases hin : n ∈ l.map DF.name
    · obtain ⟨hk, _, hf⟩ := findF_in hup hin
      rw [hf]; simp [hin]
    · rw [findF_out hin]; simp [hin]
  obtain ⟨w1, hw1, hB1, hx1, hy1⟩ : ∃ w1, w1 = (w.alloc (DCells (.slice a l.length c) off fuse)).alloc (DCells (.slice none 0 0) false 0) ∧ Below w.heap.size w w1 ∧ w1.heap[w.heap.size]? = some (DCells (.slice a l.length c) off fuse) ∧ w1.heap[w.heap.size + 1]? = some (DCells (.slice none 0 0) false 0) :=
    ⟨_, rfl, ((Below.refl _ _).alloc (Nat.le_refl _) _).alloc (by simp) _, (Below.heap_alloc _ _ _ (by simp)).trans (heap_alloc_new _ _), by have := heap_alloc_new (w.alloc (DCells (.slice a l.length c) off fuse)) (DCells (.slice none 0 0) false 0); simpa using this⟩
  have HW := Lib.hid (show renameD (los l, off, fuse) n m = actD (los l, off, fuse) (if nameB m = false then 7 else wrongN (los l, off, fuse) n) (withF (withoutF (los l) n) (m, (fileOf (los l, off, fuse) n).2)) from rfl)
  rw [hwn] at HW
  generalize renameD (los l, off, fuse) n m = res at *
  clear hwn
  obtain ⟨y0, y1, y2⟩ := dcells hx1
  obtain ⟨z0, z1, z2⟩ := dcells hy1
  have s0 := is_some z0
  have s1 := is_some z1
  have s2 := is_some z2
  have f0 := heap_free hy1 0
  have f1 := heap_free hy1 1
  have f2 := heap_free hy1 2
  have C := rplace_walk (.slice a l.length c) off fuse l n w1 (HR.out.below hB1).1 hcnt
  have HNA := Lib.hid (fun w => (rname_walk m w hml).mono (R' := fun e w' => e = .returned (.bool (nameB m)) ∧ Below w.heap.size w w') (fun _ _ h => ⟨h.1, h.2 ▸ Below.refl _ _⟩))
  obtain ⟨pk, hpk⟩ : ∃ pk, placeD l n = pk := ⟨_, rfl⟩
  rw [hpk] at C
  clear s0 s1 s2 f0 f1 f2
  go_enter Try.func33, Try.ntmps33
  go_upto_region 1 with fail
  rw [← hw1]
  clear hw1
  go_wp2_with fail
  refine C.mono ?_
  rintro e w2 ⟨rfl, hb2⟩
  have hB2 := below_chain hB1 hb2 hB1.size
  have hx2 := kept hb2 hx1
  have hy2 := kept hb2 hy1
  clear C y0 y1 y2 z0 z1 z2 hx1 hy1 hB1 hb2
  obtain ⟨y0, y1, y2⟩ := dcells hx2
  obtain ⟨z0, z1, z2⟩ := dcells hy2
  have s0 := is_some z0
  have s1 := is_some z1
  have s2 := is_some z2
  have f0 := heap_free hy2 0
  have f1 := heap_free hy2 1
  have f2 := heap_free hy2 2
  cases off with
  | true =>
    go_wp2
    refine bodyPost_ret (v := .tuple #[DiskV (.slice a l.length c) true fuse, .int .i64 13]) (by simp [results, Try.results33, go_sem, s0, s1, s2]) rfl ?_
    have hB3 := dstore_below hB2 (b := w.heap.size + 1) (by omega) (.slice a l.length c) (.bool true) (.int .i64 fuse)
    exact ⟨_, _, _, l, _, rfl, HR.out.below hB3, HW.out.trans (by simp [actD]), hB3⟩
  | false =>
  have CN := HNA.out w2
  clear HNA
  generalize nameB m = q at *
  go_wp2_with fail
  refine CN.mono ?_
  rintro e w3 ⟨rfl, hb3⟩
  have hB3 := below_chain hB2 hb3 hB2.size
  have hx3 := kept hb3 hx2
  have hy3 := kept hb3 hy2
  clear CN y0 y1 y2 z0 z1 z2 s0 s1 s2 f0 f1 f2 hx2 hy2 hB2 hb3
  obtain ⟨y0, y1, y2⟩ := dcells hx3
  obtain ⟨z0, z1, z2⟩ := dcells hy3
  have s0 := is_some z0
  have s1 := is_some z1
  have s2 := is_some z2
  have f0 := heap_free hy3 0
  have f1 := heap_free hy3 1
  have f2 := heap_free hy3 2
  cases q with
  | false =>
    go_wp2
    refine bodyPost_ret (v := .tuple #[DiskV (.slice a l.length c) false fuse, .int .i64 7]) (by simp [results, Try.results33, go_sem, s0, s1, s2]) rfl ?_
    have hB4 := dstore_below hB3 (b := w.heap.size + 1) (by omega) (.slice a l.length c) (.bool false) (.int .i64 fuse)
    exact ⟨_, _, _, l, _, rfl, HR.out.below hB4, HW.out.trans (by simp [actD]), hB4⟩
  | true =>
  by_cases hin : n ∈ l.map DF.name
  case neg =>
    rw [place_out hin] at hpk
    subst hpk
    rw [show decide (n ∈ l.map DF.name) = false by simpa using hin, if_neg (by simp), if_neg (by simp)] at HW
    clear hin hup
    go_wp2
    refine bodyPost_ret (v := .tuple #[DiskV (.slice a l.length c) false fuse, .int .i64 5]) (by simp [results, Try.results33, go_sem, s0, s1, s2]) rfl ?_
    have hB4 := dstore_below hB3 (b := w.heap.size + 1) (by omega) (.slice a l.length c) (.bool false) (.int .i64 fuse)
    exact ⟨_, _, _, l, _, rfl, HR.out.below hB4, by rw [HW.out]; simp [actD], hB4⟩
  rw [place_in hup hin] at hpk
  subst hpk
  rw [show decide (n ∈ l.map DF.name) = true by simpa using hin, if_neg (by simp), if_pos rfl] at HW
  obtain ⟨hk, hnm, hf⟩ := findF_in hup hin
  have hfo0 : fileOf (los l, false, fuse) n = l[posL (l.map DF.name) n].lo := by unfold fileOf; rw [hf]; rfl
  rw [hfo0] at HW
  have HUPW := Lib.hid (withoutK_up' (n := n) hup)
  have HOPK := Lib.hid (HOPS.out l[posL (l.map DF.name) n] (by simp))
  generalize posL (l.map DF.name) n = k at *
  have hkn : ¬ (k : Int) < 0 := by omega
  have hk' : (k : Int) < (l.length : Int) := by omega
  clear hin hup hf hnm hfo0
  have CP := rpower_walk a l.length c false fuse w3 hf1 hf2
  go_wp2_with fail
  refine CP.mono ?_
  rintro e w4 ⟨off', fuse', err, rfl, hpow, hb4⟩
  have hB4 := below_chain hB3 hb4 hB3.size
  have hx4 := kept hb4 hx3
  have hy4 := kept hb4 hy3
  clear CP y0 y1 y2 z0 z1 z2 s0 s1 s2 f0 f1 f2 hx3 hy3 hB3 hb4
  have hbl := heap_lt hx4
  obtain ⟨w5, hw5, hx5, hy5, hB5⟩ : ∃ w5, w5 = (((w4.setCell ⟨w.heap.size, 0, none⟩ (.slice a l.length c)).setCell ⟨w.heap.size, 1, none⟩ (.bool off')).setCell ⟨w.heap.size, 2, none⟩ (.int .i64 fuse')) ∧ w5.heap[w.heap.size]? = some (DCells (.slice a l.length c) off' fuse') ∧ w5.heap[w.heap.size + 1]? = some (DCells (.slice none 0 0) false 0) ∧ Below w.heap.size w w5 :=
    ⟨_, rfl, dstore hx4, (dstore_other (by omega) _ _ _).trans hy4, dstore_below hB4 (Nat.le_refl _) _ _ _⟩
  obtain ⟨y0, y1, y2⟩ := dcells hx4
  have s0 := is_some y0
  have s1 := is_some y1
  have s2 := is_some y2
  have f0 := heap_free hx4 0
  have f1 := heap_free hx4 1
  have f2 := heap_free hx4 2
  have HACT := Lib.hid (act_power (ls := los l) (fs := withF (withoutF (los l) n) (m, l[k].lo.2)) hpow)
  clear hpow
  go_upto_region 9 with fail
  rw [← hw5]
  clear hw5 y0 y1 y2 s0 s1 s2 f0 f1 f2 hx4 hy4 hB4
  obtain ⟨y0, y1, y2⟩ := dcells hx5
  obtain ⟨z0, z1, z2⟩ := dcells hy5
  have s0 := is_some z0
  have s1 := is_some z1
  have s2 := is_some z2
  have f0 := heap_free hy5 0
  have f1 := heap_free hy5 1
  have f2 := heap_free hy5 2
  by_cases he : err = 0
  case neg =>
    have he' : (err != 0) = true := by rw [bne_iff_ne]; exact he
    have he2 : (err == 0) = false := by rw [beq_eq_false_iff_ne]; exact he
    go_wp2
    refine bodyPost_ret (v := .tuple #[DiskV (.slice a l.length c) off' fuse', .int .i64 err]) (by simp [results, Try.results33, go_sem, s0, s1, s2]) rfl ?_
    have hB6 := dstore_below hB5 (b := w.heap.size + 1) (by omega) (.slice a l.length c) (.bool off') (.int .i64 fuse')
    exact ⟨_, _, _, l, _, rfl, HR.out.below hB6, by rw [HW.out, HACT.out.2 he], hB6⟩
  subst he
  have HRES := Lib.hid (HACT.out.1 rfl)
  clear s0 s1 s2 f0 f1 f2 z0 z1 z2 HACT
  have hx := HR.out.1
  obtain ⟨a', c', hv', _, _, hx⟩ := hx
  cases hv'
  rcases hx with hx | ⟨bx, ox, rfl, hx⟩
  · exfalso; rw [hx] at hk; simp at hk
  obtain ⟨hx1, hx2, hx3⟩ := df_cells hx hk
  clear hx
  have hopk := HOPK.out
  generalize l[k] = y at *
  obtain ⟨nm, dt, ov, os⟩ := y
  simp only at hx1 hx2 hx3 hopk
  have hopk' : OpRow w ov os := hopk
  obtain ⟨oa, oc, rfl, _⟩ := hopk'
  have hc1 := cell_below hB5 hx1
  have hc2 := cell_below hB5 hx2
  have hc3 := cell_below hB5 hx3
  obtain ⟨w6, hw6, hx6, hy6, hz6, hB6⟩ : ∃ w6, w6 = w5.alloc (.cells #[S m, S dt, .slice oa os.length oc] 50) ∧ w6.heap[w.heap.size]? = some (DCells (.slice (some ⟨bx, ox, none⟩) l.length c) off' fuse') ∧ w6.heap[w.heap.size + 1]? = some (DCells (.slice none 0 0) false 0) ∧ w6.heap[w5.heap.size]? = some (.cells #[S m, S dt, .slice oa os.length oc] 50 (0, 0)) ∧ Below w.heap.size w w6 :=
    ⟨_, rfl, (Below.heap_alloc _ _ _ (heap_lt hx5)).trans hx5, (Below.heap_alloc _ _ _ (heap_lt hy5)).trans hy5, heap_alloc_new _ _, hB5.alloc hB5.size _⟩
  have hl5 := heap_lt hy5
  clear hx1 hx2 hx3
  go_upto_region 13 with fail
  rw [← hw6]
  clear hw6 y0 y1 y2 hc1 hc2 hc3 hx5 hy5 hB5
  obtain ⟨w7, hw7, hx7, hy7, hz7, hB7⟩ : ∃ w7 : World, w7 = { w6 with drawn := w6.drawn + 1 } ∧ w7.heap[w.heap.size]? = some (DCells (.slice (some ⟨bx, ox, none⟩) l.length c) off' fuse') ∧ w7.heap[w.heap.size + 1]? = some (DCells (.slice none 0 0) false 0) ∧ w7.heap[w5.heap.size]? = some (.cells #[S m, S dt, .slice oa os.length oc] 50 (0, 0)) ∧ Below w.heap.size w w7 :=
    ⟨_, rfl, hx6, hy6, hz6, ⟨hB6.os, hB6.tape, hB6.output, hB6.size, hB6.block⟩⟩
  (refine wp_region_held (S := BoxS w5.heap.size (.cells #[S m, S dt, .slice oa os.length oc] 50 (0, 0))) (by kernel_rfl) ?_)
  rw [← hw7]
  clear hw7 hx6 hy6 hz6 hB6
  have CW := rwithoutO_walk (.slice (some ⟨bx, ox, none⟩) l.length c) l n w7 (HR.out.below hB7) hcnt
  have y0 := (dcells hx7).1
  (refine wpAnyH_take (i := 4) (v := ?_) rfl (by kernel_rfl) (by kernel_rfl) (by kernel_rfl) (fun _ _ _ h => h) (Or.inl ⟨by rfl, ?_⟩) (by exact hz7) ?_; rotate_left; (intro w9 hS9; (have q0 := heap_cell hS9 (j := 0) (v := S m) rfl; have q1 := heap_cell hS9 (j := 1) (v := S dt) rfl; have q2 := heap_cell hS9 (j := 2) (v := .slice oa os.length oc) rfl); go_simp; try with_reducible rfl))
  (refine wpAnyH_take (i := 0) (v := ?_) rfl (by kernel_rfl) (by kernel_rfl) (by kernel_rfl) (fun _ _ _ h => h) (Or.inl ⟨by rfl, ?_⟩) (by exact hz7) ?_; rotate_left; (intro w9 hS9; skip; go_simp; try with_reducible rfl))
  (refine wpAnyH_take (i := 2) (v := ?_) rfl (by kernel_rfl) (by kernel_rfl) (by kernel_rfl) (fun _ _ _ h => h) (Or.inl ⟨by rfl, ?_⟩) (by exact hz7) ?_; rotate_left; (intro w9 hS9; skip; go_simp; try with_reducible rfl))
  (refine wpAnyH_one (i := 1) (by kernel_rfl) rfl (fun K hK => ?_); go_simp; refine hK _ _ (hz7) ?_; clear hK K)
  refine wpAnyH_one (i := 3) (by kernel_rfl) rfl (fun K hK => ?_)
  go_simp
  refine CW.mono ?_
  rintro e w8 ⟨v8, rfl, hown8, hb8⟩
  have hB8 := below_chain hB7 hb8 hB7.size
  have hx8 := kept hb8 hx7
  have hy8 := kept hb8 hy7
  have hz8 : BoxS w5.heap.size (.cells #[S m, S dt, .slice oa os.length oc] 50 (0, 0)) w8 := kept hb8 hz7
  have hl7 := heap_lt hz7
  obtain ⟨va, vn, vc, rfl⟩ := own_slice hown8
  have hops8 : ∀ x ∈ withoutK DF.name l n, OpRow w8 x.ov x.ops := fun x hx => (HOPS.out x (List.mem_filter.1 hx).1).below hB8
  have CI := rwith_walk (.slice va vn vc) (withoutK DF.name l n) ⟨m, dt, .slice oa os.length oc, os⟩ w8 ⟨own_row hown8, hops8⟩ (hopk.below hB8) (by have : (withoutK DF.name l n).length ≤ l.length := List.length_filter_le _ _; omega) HUPW.out
  refine hK _ _ hz8 ?_
  clear hK K CW hx7 hy7 hz7 y0 hops8
  refine wpAnyH_one (i := 5) (by kernel_rfl) rfl (fun K hK => ?_)
  go_simp
  refine CI.mono ?_
  rintro e w9 ⟨v9, rfl, hown9, hb9⟩
  have hB9 := below_chain hB8 hb9 hB8.size
  have hx9 := kept hb9 hx8
  have hy9 := kept hb9 hy8
  have hz9 : BoxS w5.heap.size (.cells #[S m, S dt, .slice oa os.length oc] 50 (0, 0)) w9 := kept hb9 hz8
  have hl8 := heap_lt hx8
  have hl8' := heap_lt hy8
  obtain ⟨ua, un, uc, rfl⟩ := own_slice hown9
  have HOWN := Lib.hid hown9
  refine hK _ _ hz9 ?_
  clear hK K CI hx8 hy8 hz8 hown8 hown9
  (refine wpAnyH_one (i := 6) (by kernel_rfl) rfl (fun K hK => ?_); go_simp; refine hK _ _ (hz9) ?_; clear hK K)
  obtain ⟨y0, y1, y2⟩ := dcells hx9
  have r0 := is_some y0
  have g0 := heap_free hx9 0
  have hne : w5.heap.size ≠ w.heap.size := by omega
  (refine wpAnyH_one (i := 7) (by kernel_rfl) rfl (fun K hK => ?_); go_simp; refine hK _ _ ((Below.heap_setCell _ _ _ _ hne).trans hz9) ?_; clear hK K)
  (refine wpAnyH_done (by kernel_rfl) ?_ _)
  obtain ⟨w10, hw10, hx10, hy10, hB10, hown10⟩ : ∃ w10, w10 = w9.setCell ⟨w.heap.size, 0, none⟩ (.slice ua un uc) ∧ w10.heap[w.heap.size]? = some (DCells (.slice ua un uc) off' fuse') ∧ w10.heap[w.heap.size + 1]? = some (DCells (.slice none 0 0) false 0) ∧ Below w.heap.size w w10 ∧ World.ownsRow w10 w8.heap.size 50 3 (.slice ua un uc) _ _ :=
    ⟨_, rfl, dfirst hx9, (Below.heap_setCell _ _ _ _ (show w.heap.size + 1 ≠ w.heap.size by omega)).trans hy9, below_setC hB9 (Nat.le_refl _) 0 _, own_set HOWN.out hl8⟩
  have HOWN2 := Lib.hid hown10
  clear HOWN hown10 y0 y1 y2 r0 g0
  rw [← hw10]
  clear hw10 hx9 hy9 hB9
  obtain ⟨y0, y1, y2⟩ := dcells hx10
  obtain ⟨z0, z1, z2⟩ := dcells hy10
  have s0 := is_some z0
  have s1 := is_some z1
  have s2 := is_some z2
  have f0 := heap_free hy10 0
  have f1 := heap_free hy10 1
  have f2 := heap_free hy10 2
  have HB11 := Lib.hid (dstore_below hB10 (b := w.heap.size + 1) (by omega) (.slice ua un uc) (.bool off') (.int .i64 fuse'))
  go_wp2
  refine bodyPost_ret (v := .tuple #[DiskV (.slice ua un uc) off' fuse', .int .i64 0]) (by simp [results, Try.results33, go_sem, s0, s1, s2]) rfl ?_
  refine ⟨_, _, _, withK DF.name (withoutK DF.name l n) ⟨m, dt, .slice oa os.length oc, os⟩, _, rfl, ⟨own_row (own_set (own_set (own_set HOWN2.out hl8') hl8') hl8'), fun x hx => ?_⟩, ?_, HB11.out⟩
  · rcases withK_memR hx with rfl | hx
    · exact hopk.below HB11.out
    · exact (HOPS.out x (List.mem_filter.1 hx).1).below HB11.out
  · rw [HW.out, HRES.out]
    have e1 : los (withK DF.name (withoutK DF.name l n) ⟨m, dt, .slice oa os.length oc, os⟩) = withF (los (withoutK DF.name l n)) (m, dt, os) := withK_map (key := DF.name) (key' := fun x : LF => x.1) (fun _ => rfl) _ _
    have e2 : los (withoutK DF.name l n) = withoutF (los l) n := withoutK_map (key := DF.name) (key' := fun x : LF => x.1) (fun _ => rfl) l n
    rw [e1, e2]; rfl
end Go.Proofs.Ythjoaoakadaieaa

namespace Go.Proofs.Ythjoaoakadaieaa
open Go Go.RowKit

def edgeOn (md : Region.Mode) (o : Oper) (i : Nat) : Bool := o.after.toList.any (fun e => Region.binds md e && (e.on == i))
def nxtOf (md : Region.Mode) (ops : Array Oper) (i : Nat) : Nat :=
  ((List.range ops.size).find? (fun j => decide (i < j) && (match ops[j]? with | some o => edgeOn md o i | none => false))).getD 0
/-- Each of the first m refers only to earlier ones, and leads on to number m; all behind m wait for m. -/
def aheadOk (md : Region.Mode) (ops : Array Oper) (m : Nat) : Bool :=
  decide (m < ops.size) &&
  ((List.range m).all (fun i => match ops[i]? with
    | some o => o.after.toList.all (fun e => !Region.binds md e || decide (e.on < i)) && (decide (i < nxtOf md ops i) && (decide (nxtOf md ops i ≤ m) &&
        (match ops[nxtOf md ops i]? with | some o' => edgeOn md o' i | none => false)))
    | none => false) &&
  (List.range ops.size).all (fun j => decide (j ≤ m) || (match ops[j]? with | some o => edgeOn md o m | none => true)))

theorem count_flip {p q : Nat → Bool} {i : Nat} (hp : p i = true) (hq : q i = false) (h : ∀ j, j ≠ i → p j = q j) : ∀ m, (List.range m).countP p = (List.range m).countP q + (if i < m then 1 else 0)
  | 0 => by simp
  | m + 1 => by
    rw [List.range_succ, List.countP_append, List.countP_append, count_flip hp hq h m]
    by_cases e : m = i
    · subst e
      simp [hp, hq]
    · have h1 := h m e
      simp only [List.countP_singleton, h1]
      by_cases h2 : i < m
      · rw [if_pos h2, if_pos (show i < m + 1 by omega)]; omega
      · rw [if_neg h2, if_neg (show ¬ i < m + 1 by omega), Nat.add_zero, Nat.add_zero]

section
variable {md : Region.Mode} {ops : Array Oper} {m : Nat}

structure AheadI (md : Region.Mode) (ops : Array Oper) (m k : Nat) (listed : Array Bool) : Prop where
  size : listed.size = ops.size
  hi : ∀ j, m ≤ j → j < ops.size → listed.getD j true = false
  dc : ∀ i, i < m → listed.getD i true = true → ∀ o, ops[i]? = some o → ∀ e ∈ o.after, Region.binds md e = true → listed.getD e.on true = true
  cnt : (List.range m).countP (fun i => !listed.getD i true) = k

theorem edgeOn_iff {o : Oper} {i : Nat} (h : edgeOn md o i = true) : ∃ e ∈ o.after, Region.binds md e = true ∧ e.on = i := by
  unfold edgeOn at h
  obtain ⟨e, he, h2⟩ := List.any_eq_true.1 h
  simp only [Bool.and_eq_true, beq_iff_eq] at h2
  exact ⟨e, by simpa using he, h2.1, h2.2⟩
theorem getD_in {a : Array Bool} {i : Nat} (h : i < a.size) (x y : Bool) : a.getD i x = a.getD i y := by simp [Array.getD, h]
theorem getD_out {a : Array Bool} {i : Nat} (h : ¬ i < a.size) (x : Bool) : a.getD i x = x := by simp [Array.getD, h]

theorem ahead_of_ok (hok : aheadOk md ops m = true) : ∀ (k : Nat) (listed : Array Bool), AheadI md ops m k listed → ahead md ops m k listed = true := by
  unfold aheadOk at hok
  simp only [Bool.and_eq_true, decide_eq_true_eq, List.all_eq_true, List.mem_range, Bool.or_eq_true] at hok
  obtain ⟨hm, h1, h2⟩ := hok
  have hget : ∀ i, i < m → ∃ o, ops[i]? = some o ∧ (∀ e ∈ o.after, Region.binds md e = true → e.on < i) ∧ i < nxtOf md ops i ∧ nxtOf md ops i ≤ m ∧ ∃ o', ops[nxtOf md ops i]? = some o' ∧ edgeOn md o' i = true := by
    intro i hi
    have h3 := h1 i hi
    cases ho : ops[i]? with
    | none => rw [ho] at h3; cases h3
    | some o =>
      rw [ho] at h3
      simp only [Bool.and_eq_true, decide_eq_true_eq, List.all_eq_true, Bool.or_eq_true, Bool.not_eq_true'] at h3
      obtain ⟨h4, h5, h6, h7⟩ := h3
      refine ⟨o, rfl, fun e he hb => ?_, h5, h6, ?_⟩
      · rcases h4 e (by simpa using he) with h | h
        · rw [hb] at h; cases h
        · exact h
      · cases ho' : ops[nxtOf md ops i]? with
        | none => rw [ho'] at h7; cases h7
        | some o' => rw [ho'] at h7; exact ⟨o', rfl, h7⟩
  intro k
  induction k with
  | zero =>
    intro listed hI
    simp only [ahead, List.all_eq_true, List.mem_range]
    intro i hi
    have h3 := hI.cnt
    rw [List.countP_eq_zero] at h3
    have h4 := h3 i (List.mem_range.2 hi)
    simpa using h4
  | succ k ih =>
    intro listed hI
    -- some of the first m is not listed
    have hex : ∃ p, p < m ∧ listed.getD p true = false := by
      have h3 : 0 < (List.range m).countP (fun i => !listed.getD i true) := by rw [hI.cnt]; omega
      obtain ⟨p, hp, h4⟩ := List.countP_pos_iff.1 h3
      exact ⟨p, List.mem_range.1 hp, by simpa using h4⟩
    -- whoever is ready is one of the first m
    have hlow : ∀ i ∈ Region.ready md ops listed, i < m := by
      intro j hj
      obtain ⟨hju, o, hoj, hall⟩ := mem_ready.1 hj
      rcases Nat.lt_or_ge j m with h | hge
      · exact h
      exfalso
      have hjs : j < ops.size := (Array.getElem?_eq_some_iff.1 hoj).1
      rcases Nat.lt_or_ge m j with hgt | hle
      · have h3 := h2 j hjs
        rcases h3 with h3 | h3
        · omega
        · rw [hoj] at h3
          obtain ⟨e, he, hb, hon⟩ := edgeOn_iff h3
          have h4 := hall e he hb
          rw [hon, getD_in (by rw [hI.size]; exact hm) false true, hI.hi m (Nat.le_refl _) hm] at h4
          cases h4
      · obtain rfl : j = m := by omega
        -- the largest that is not listed
        have hdown : ∀ d, ∀ p, j - p ≤ d → p < j → listed.getD p true = true := by
          intro d
          induction d with
          | zero => intro p h3 h4; omega
          | succ d ihd =>
            intro p _ h4
            obtain ⟨o1, ho1, _, hn1, hn2, o2, ho2, hed⟩ := hget p h4
            obtain ⟨e, he, hb, hon⟩ := edgeOn_iff hed
            rcases Nat.lt_or_ge (nxtOf md ops p) j with h5 | h5
            · have h6 := ihd (nxtOf md ops p) (by omega) h5
              have h7 := hI.dc _ h5 h6 o2 ho2 e he hb
              rwa [hon] at h7
            · have h6 : nxtOf md ops p = j := by omega
              rw [h6, hoj] at ho2
              cases ho2
              have h7 := hall e he hb
              rw [hon] at h7
              rwa [getD_in (by rw [hI.size]; omega) true false]
        obtain ⟨p, hp, hpu⟩ := hex
        rw [hdown j p (by omega) hp] at hpu
        cases hpu
    -- the least that is not listed is ready
    have hne : Region.ready md ops listed ≠ [] := by
      obtain ⟨p, hp, hpu⟩ := hex
      have hmin : ∃ p, p < m ∧ listed.getD p true = false ∧ ∀ q, q < p → listed.getD q true = true := by
        clear hlow
        induction p using Nat.strongRecOn with
        | _ p ihp =>
          by_cases h3 : ∀ q, q < p → listed.getD q true = true
          · exact ⟨p, hp, hpu, h3⟩
          · obtain ⟨q, h4⟩ := Classical.not_forall.1 h3
            obtain ⟨h5, h6⟩ := Classical.not_imp.1 h4
            exact ihp q h5 (by omega) (by simpa using h6)
      obtain ⟨p, hp, hpu, hq⟩ := hmin
      obtain ⟨o, ho, hb, _⟩ := hget p hp
      refine List.ne_nil_of_mem (a := p) (mem_ready.2 ⟨hpu, o, ho, fun e he hbe => ?_⟩)
      have h3 := hb e he hbe
      rw [getD_in (by rw [hI.size]; omega) false true]
      exact hq _ h3
    simp only [ahead, Bool.and_eq_true, List.all_eq_true, decide_eq_true_eq]
    refine ⟨by cases hr : Region.ready md ops listed with | nil => exact absurd hr hne | cons a t => rfl, fun i hi => ⟨hlow i hi, ih _ ?_⟩⟩
    have him := hlow i hi
    obtain ⟨hiu, o, hoi, hall⟩ := mem_ready.1 hi
    have his : i < listed.size := by rw [hI.size]; omega
    have hself : ∀ x, (listed.setIfInBounds i true).getD i x = true := fun x => by simp [Array.getD, his]
    refine ⟨by simp [hI.size], fun j hj hjs => by rw [getD_set_ne true (by omega)]; exact hI.hi j hj hjs, ?_, ?_⟩
    · intro j hj hjl o2 ho2 e he hb
      by_cases hji : j = i
      · subst hji
        rw [hoi] at ho2
        cases ho2
        by_cases h3 : e.on = j
        · rw [h3]; exact hself true
        · have h4 := hall e he hb
          rw [getD_set_ne true (Ne.symm h3)]
          by_cases h5 : e.on < listed.size
          · rwa [getD_in h5 true false]
          · rw [getD_out h5]
      · rw [getD_set_ne true (Ne.symm hji)] at hjl
        have h4 := hI.dc j hj hjl o2 ho2 e he hb
        by_cases h3 : e.on = i
        · rw [h3]; exact hself true
        · rw [getD_set_ne true (Ne.symm h3)]; exact h4
    · have h3 := count_flip (p := fun j => !listed.getD j true) (q := fun j => !(listed.setIfInBounds i true).getD j true) (i := i) (by rw [hiu]; rfl) (by rw [hself]; rfl) (fun j hj => by rw [getD_set_ne true (Ne.symm hj)]) m
      rw [hI.cnt, if_pos him] at h3
      omega

theorem ahead_start (hok : aheadOk md ops m = true) {n : Nat} (hn : n = ops.size) : ahead md ops m m (Array.replicate n false) = true := by
  subst hn
  refine ahead_of_ok hok m _ ⟨by simp, fun j _ hj => by simp [Array.getD, hj], fun i hi h => ?_, ?_⟩
  · have hm : m < ops.size := by
      unfold aheadOk at hok
      simp only [Bool.and_eq_true, decide_eq_true_eq] at hok
      exact hok.1
    rw [show (Array.replicate ops.size false).getD i true = false by simp [Array.getD]; omega] at h
    cases h
  · have hm : m < ops.size := by
      unfold aheadOk at hok
      simp only [Bool.and_eq_true, decide_eq_true_eq] at hok
      exact hok.1
    have : (List.range m).countP (fun i => !(Array.replicate ops.size false).getD i true) = (List.range m).length := by
      rw [List.countP_eq_length]
      intro i hi
      have := List.mem_range.1 hi
      rw [show (Array.replicate ops.size false).getD i true = false by simp [Array.getD]; omega]; rfl
    rw [this, List.length_range]
end
section
variable {P : Program}
theorem wp_tail_quick {id : Nat} {Q : Exit → Act → World → Prop} {a : Act} {w : World} {l : List Oper} (m f : Nat) (hl : l.length = m + f) (hm : P.follows .mixedOrders = true) (hs : Region.noSelect l.toArray = true)
    (hB : lexPre .any l.toArray m 0 (Array.replicate (m + f) false) = true) (hA : aheadOk .any l.toArray m = true)
    (h : wpQuiet P l.toArray (fun w' => ∃ p : LaterOf w, w' = p.world) (fun a' => ∀ w', (∃ p : LaterOf w, w' = p.world) → wpAny P .any l.toArray Q f (listedTo m 0 (Array.replicate (m + f) false)) a' w') (l.take m) a) : (Code.region id l.toArray true).wp P Q a w :=
  wp_tail_later m f hl hm hs hB (ahead_start hA (by rw [List.size_toArray, hl])) h
end
end Go.Proofs.Ythjoaoakadaieaa

namespace Go.Proofs.Ythjoaoakadaieaa
open Go.RowKit

set_option maxHeartbeats 8000000 in
set_option maxRecDepth 100000 in
theorem rsync_walk (v : Value) (off : Bool) (fuse : Int) (l : List DF) (n : List UInt8) (w : World) (hr : FilesR w v l) (hcnt : l.length ≤ 1000000) (hup : upS (l.map DF.name)) (hf1 : -1 ≤ fuse) (hf2 : fuse ≤ 1048576) (hok : ∀ x ∈ l, badF x.lo = false) :
    Calls Try.prog 32 #[DiskV v off fuse, S n] w (RActPost (syncD (los l, off, fuse) n) w) := by
  have HR := Lib.hid hr
  have HOPS := Lib.hid hr.2
  obtain ⟨⟨a, c, rfl, _⟩, _⟩ := hr
  have hwn : wrongN (los l, off, fuse) n = if decide (n ∈ l.map DF.name) = true then 0 else 5 := by
    unfold wrongN
    by_cases hin : n ∈ l.map DF.name
    · obtain ⟨hk, _, hf⟩ := findF_in hup hin
      rw [hf]; simp [hin]
    · rw [findF_out hin]; simp [hin]
  obtain ⟨w1, hw1, hB1, hx1, hy1⟩ : ∃ w1, w1 = (w.alloc (DCells (.slice a l.length c) off fuse)).alloc (DCells (.slice none 0 0) false 0) ∧ Below w.heap.size w w1 ∧ w1.heap[w.heap.size]? = some (DCells (.slice a l.length c) off fuse) ∧ w1.heap[w.heap.size + 1]? = some (DCells (.slice none 0 0) false 0) :=
    ⟨_, rfl, ((Below.refl _ _).alloc (Nat.le_refl _) _).alloc (by simp) _, (Below.heap_alloc _ _ _ (by simp)).trans (heap_alloc_new _ _), by have := heap_alloc_new (w.alloc (DCells (.slice a l.length c) off fuse)) (DCells (.slice none 0 0) false 0); simpa using this⟩
  have HW := Lib.hid (show syncD (los l, off, fuse) n = actD (los l, off, fuse) (wrongN (los l, off, fuse) n) (withF (los l) (n, (readD (los l, off, fuse) n).1, [])) from rfl)
  rw [hwn] at HW
  generalize syncD (los l, off, fuse) n = res at *
  clear hwn
  obtain ⟨y0, y1, y2⟩ := dcells hx1
  obtain ⟨z0, z1, z2⟩ := dcells hy1
  have s0 := is_some z0
  have s1 := is_some z1
  have s2 := is_some z2
  have f0 := heap_free hy1 0
  have f1 := heap_free hy1 1
  have f2 := heap_free hy1 2
  have C := rplace_walk (.slice a l.length c) off fuse l n w1 (HR.out.below hB1).1 hcnt
  obtain ⟨pk, hpk⟩ : ∃ pk, placeD l n = pk := ⟨_, rfl⟩
  rw [hpk] at C
  clear s0 s1 s2 f0 f1 f2
  go_enter Try.func32, Try.ntmps32
  go_upto_region 1 with fail
  rw [← hw1]
  clear hw1
  go_wp2_with fail
  refine C.mono ?_
  rintro e w2 ⟨rfl, hb2⟩
  have hB2 := below_chain hB1 hb2 hB1.size
  have hx2 := kept hb2 hx1
  have hy2 := kept hb2 hy1
  clear C y0 y1 y2 z0 z1 z2 hx1 hy1 hB1 hb2
  obtain ⟨y0, y1, y2⟩ := dcells hx2
  obtain ⟨z0, z1, z2⟩ := dcells hy2
  have s0 := is_some z0
  have s1 := is_some z1
  have s2 := is_some z2
  have f0 := heap_free hy2 0
  have f1 := heap_free hy2 1
  have f2 := heap_free hy2 2
  cases off with
  | true =>
    go_wp2
    refine bodyPost_ret (v := .tuple #[DiskV (.slice a l.length c) true fuse, .int .i64 13]) (by simp [results, Try.results32, go_sem, s0, s1, s2]) rfl ?_
    have hB3 := dstore_below hB2 (b := w.heap.size + 1) (by omega) (.slice a l.length c) (.bool true) (.int .i64 fuse)
    exact ⟨_, _, _, l, _, rfl, HR.out.below hB3, HW.out.trans (by simp [actD]), hB3⟩
  | false =>
  by_cases hin : n ∈ l.map DF.name
  case neg =>
    rw [place_out hin] at hpk
    subst hpk
    rw [show decide (n ∈ l.map DF.name) = false by simpa using hin, if_neg (by simp)] at HW
    clear hin hup
    go_wp2
    refine bodyPost_ret (v := .tuple #[DiskV (.slice a l.length c) false fuse, .int .i64 5]) (by simp [results, Try.results32, go_sem, s0, s1, s2]) rfl ?_
    have hB4 := dstore_below hB2 (b := w.heap.size + 1) (by omega) (.slice a l.length c) (.bool false) (.int .i64 fuse)
    exact ⟨_, _, _, l, _, rfl, HR.out.below hB4, by rw [HW.out]; simp [actD], hB4⟩
  rw [place_in hup hin] at hpk
  subst hpk
  rw [show decide (n ∈ l.map DF.name) = true by simpa using hin, if_pos rfl] at HW
  obtain ⟨hk, hnm, hf⟩ := findF_in hup hin
  have hrd : readD (los l, false, fuse) n = (seenL l[posL (l.map DF.name) n].lo.2.1 l[posL (l.map DF.name) n].lo.2.2, true) := by unfold readD; rw [hf]
  rw [hrd] at HW
  have hbad := hok l[posL (l.map DF.name) n] (by simp)
  have HOPK := Lib.hid (HOPS.out l[posL (l.map DF.name) n] (by simp))
  have HUP := Lib.hid hup
  generalize posL (l.map DF.name) n = k at *
  have hkn : ¬ (k : Int) < 0 := by omega
  have hk' : (k : Int) < (l.length : Int) := by omega
  clear hin hup hf hnm hrd hok
  have CP := rpower_walk a l.length c false fuse w2 hf1 hf2
  go_wp2_with fail
  refine CP.mono ?_
  rintro e w4 ⟨off', fuse', err, rfl, hpow, hb4⟩
  have hB4 := below_chain hB2 hb4 hB2.size
  have hx4 := kept hb4 hx2
  have hy4 := kept hb4 hy2
  clear CP y0 y1 y2 z0 z1 z2 s0 s1 s2 f0 f1 f2 hx2 hy2 hB2 hb4
  have hbl := heap_lt hx4
  obtain ⟨w5, hw5, hx5, hy5, hB5⟩ : ∃ w5, w5 = (((w4.setCell ⟨w.heap.size, 0, none⟩ (.slice a l.length c)).setCell ⟨w.heap.size, 1, none⟩ (.bool off')).setCell ⟨w.heap.size, 2, none⟩ (.int .i64 fuse')) ∧ w5.heap[w.heap.size]? = some (DCells (.slice a l.length c) off' fuse') ∧ w5.heap[w.heap.size + 1]? = some (DCells (.slice none 0 0) false 0) ∧ Below w.heap.size w w5 :=
    ⟨_, rfl, dstore hx4, (dstore_other (by omega) _ _ _).trans hy4, dstore_below hB4 (Nat.le_refl _) _ _ _⟩
  obtain ⟨y0, y1, y2⟩ := dcells hx4
  have s0 := is_some y0
  have s1 := is_some y1
  have s2 := is_some y2
  have f0 := heap_free hx4 0
  have f1 := heap_free hx4 1
  have f2 := heap_free hx4 2
  have HACT := Lib.hid (act_power (ls := los l) (fs := withF (los l) (n, seenL l[k].lo.2.1 l[k].lo.2.2, [])) hpow)
  clear hpow
  go_upto_region 7 with fail
  rw [← hw5]
  clear hw5 y0 y1 y2 s0 s1 s2 f0 f1 f2 hx4 hy4 hB4
  obtain ⟨y0, y1, y2⟩ := dcells hx5
  obtain ⟨z0, z1, z2⟩ := dcells hy5
  have s0 := is_some z0
  have s1 := is_some z1
  have s2 := is_some z2
  have f0 := heap_free hy5 0
  have f1 := heap_free hy5 1
  have f2 := heap_free hy5 2
  by_cases he : err = 0
  case neg =>
    have he' : (err != 0) = true := by rw [bne_iff_ne]; exact he
    have he2 : (err == 0) = false := by rw [beq_eq_false_iff_ne]; exact he
    go_wp2
    refine bodyPost_ret (v := .tuple #[DiskV (.slice a l.length c) off' fuse', .int .i64 err]) (by simp [results, Try.results32, go_sem, s0, s1, s2]) rfl ?_
    have hB6 := dstore_below hB5 (b := w.heap.size + 1) (by omega) (.slice a l.length c) (.bool off') (.int .i64 fuse')
    exact ⟨_, _, _, l, _, rfl, HR.out.below hB6, by rw [HW.out, HACT.out.2 he], hB6⟩
  subst he
  have HRES := Lib.hid (HACT.out.1 rfl)
  clear s0 s1 s2 f0 f1 f2 z0 z1 z2 HACT
  have hx := HR.out.1
  obtain ⟨a', c', hv', _, _, hx⟩ := hx
  cases hv'
  rcases hx with hx | ⟨bx, ox, rfl, hx⟩
  · exfalso; rw [hx] at hk; simp at hk
  obtain ⟨hx1, hx2, hx3⟩ := df_cells hx hk
  clear hx
  have hopk := HOPK.out
  generalize l[k] = y at *
  have CS := fun (p : LaterOf w5) => rseen_walk y p.world (hopk.below (below_chain hB5 p.below hB5.size)) hbad
  obtain ⟨nm, dt, ov, os⟩ := y
  simp only at hx1 hx2 hx3 CS
  have l1 := LaterOf.cell (cell_below hB5 hx1)
  have l2 := LaterOf.cell (cell_below hB5 hx2)
  have l3 := LaterOf.cell (cell_below hB5 hx3)
  have l0 := LaterOf.cell y0
  clear hx1 hx2 hx3 y0 y1 y2
  go_upto_region 9 with fail
  (refine wp_tail_quick 10 3 rfl (by kernel_rfl) (by kernel_rfl) (by kernel_rfl) (by kernel_rfl) ?_; simp only [List.take_succ_cons, List.take_zero]; (repeat (go_big_quiet_step ((go_at_call 62; exact LaterOf.call _ (CS _))))); refine wpQuiet_nil ?_; intro _ hw1; obtain ⟨lw, hw2⟩ := hw1; subst hw2)
  have hB6 := below_chain hB5 lw.below hB5.size
  have hx6 := kept lw.below hx5
  have hy6 := kept lw.below hy5
  have hl6 := heap_lt hx6
  have hl6' := heap_lt hy6
  have CI := rwith_walk (.slice (some ⟨bx, ox, none⟩) l.length c) l ⟨n, seenL dt os, .slice none 0 0, []⟩ lw.world (HR.out.below hB6) (Row.nil _ _) hcnt HUP.out
  clear l0 l1 l2 l3 CS hx5 hy5 hB5
  refine wpAny_ready (rs := [10]) (by kernel_rfl) (by simp) ?_
  refine AllReady.cons rfl (fun K hK => ?_) AllReady.nil
  go_simp
  refine CI.mono ?_
  rintro e w8 ⟨v8, rfl, hown8, hb8⟩
  have hB8 := below_chain hB6 hb8 hB6.size
  have hx8 := kept hb8 hx6
  have hy8 := kept hb8 hy6
  obtain ⟨va, vn, vc, rfl⟩ := own_slice hown8
  have HOWN := Lib.hid hown8
  refine hK _ _ ?_
  clear hK K CI hx6 hy6 hown8
  obtain ⟨y0, y1, y2⟩ := dcells hx8
  have r0 := is_some y0
  have g0 := heap_free hx8 0
  (refine wpAny_ready (rs := [11]) (by kernel_rfl) (by simp) ?_; refine AllReady.cons rfl (fun K hK => ?_) AllReady.nil; go_simp; refine hK _ _ ?_; clear hK K)
  (refine wpAny_ready (rs := [12]) (by kernel_rfl) (by simp) ?_; refine AllReady.cons rfl (fun K hK => ?_) AllReady.nil; go_simp; refine hK _ _ ?_; clear hK K)
  refine wpAny_done (by kernel_rfl) ?_ _
  obtain ⟨w10, hw10, hx10, hy10, hB10, hown10⟩ : ∃ w10, w10 = w8.setCell ⟨w.heap.size, 0, none⟩ (.slice va vn vc) ∧ w10.heap[w.heap.size]? = some (DCells (.slice va vn vc) off' fuse') ∧ w10.heap[w.heap.size + 1]? = some (DCells (.slice none 0 0) false 0) ∧ Below w.heap.size w w10 ∧ World.ownsRow w10 lw.world.heap.size 50 3 (.slice va vn vc) _ _ :=
    ⟨_, rfl, dfirst hx8, (Below.heap_setCell _ _ _ _ (show w.heap.size + 1 ≠ w.heap.size by omega)).trans hy8, below_setC hB8 (Nat.le_refl _) 0 _, own_set HOWN.out hl6⟩
  have HOWN2 := Lib.hid hown10
  clear HOWN hown10 y0 y1 y2 r0 g0
  rw [← hw10]
  clear hw10 hx8 hy8 hB8
  obtain ⟨y0, y1, y2⟩ := dcells hx10
  obtain ⟨z0, z1, z2⟩ := dcells hy10
  have s0 := is_some z0
  have s1 := is_some z1
  have s2 := is_some z2
  have f0 := heap_free hy10 0
  have f1 := heap_free hy10 1
  have f2 := heap_free hy10 2
  have HB11 := Lib.hid (dstore_below hB10 (b := w.heap.size + 1) (by omega) (.slice va vn vc) (.bool off') (.int .i64 fuse'))
  go_wp2
  refine bodyPost_ret (v := .tuple #[DiskV (.slice va vn vc) off' fuse', .int .i64 0]) (by simp [results, Try.results32, go_sem, s0, s1, s2]) rfl ?_
  refine ⟨_, _, _, withK DF.name l ⟨n, seenL dt os, .slice none 0 0, []⟩, _, rfl, ⟨own_row (own_set (own_set (own_set HOWN2.out hl6') hl6') hl6'), fun x hx => ?_⟩, ?_, HB11.out⟩
  · rcases withK_memR hx with rfl | hx
    · exact Row.nil _ _
    · exact (HOPS.out x hx).below HB11.out
  · rw [HW.out, HRES.out]
    have e1 : los (withK DF.name l ⟨n, seenL dt os, .slice none 0 0, []⟩) = withF (los l) (n, seenL dt os, []) := withK_map (key := DF.name) (key' := fun x : LF => x.1) (fun _ => rfl) _ _
    rw [e1]; rfl
end Go.Proofs.Ythjoaoakadaieaa

namespace Go.Proofs.Ythjoaoakadaieaa
open Go.RowKit

set_option maxHeartbeats 8000000 in
set_option maxRecDepth 100000 in
theorem rwrite_walk (v : Value) (off : Bool) (fuse : Int) (l : List DF) (n : List UInt8) (k : Int) (s : List UInt8) (w : World) (hr : FilesR w v l) (hcnt : l.length ≤ 1000000) (hup : upS (l.map DF.name)) (hf1 : -1 ≤ fuse) (hf2 : fuse ≤ 1048576) (hnl : n.length ≤ 1000000) (hsl : s.length ≤ 1000000) (hol : ∀ x ∈ l, x.ops.length ≤ 1000) :
    Calls Try.prog 31 #[DiskV v off fuse, S n, .int .i64 k, S s] w (RActPost (writeD (los l, off, fuse) n k s) w) := by
  have HR := Lib.hid hr
  have HOPS := Lib.hid hr.2
  obtain ⟨⟨a, c, rfl, _⟩, _⟩ := hr
  obtain ⟨w1, hw1, hB1, hx1, hy1⟩ : ∃ w1, w1 = (w.alloc (DCells (.slice a l.length c) off fuse)).alloc (DCells (.slice none 0 0) false 0) ∧ Below w.heap.size w w1 ∧ w1.heap[w.heap.size]? = some (DCells (.slice a l.length c) off fuse) ∧ w1.heap[w.heap.size + 1]? = some (DCells (.slice none 0 0) false 0) :=
    ⟨_, rfl, ((Below.refl _ _).alloc (Nat.le_refl _) _).alloc (by simp) _, (Below.heap_alloc _ _ _ (by simp)).trans (heap_alloc_new _ _), by have := heap_alloc_new (w.alloc (DCells (.slice a l.length c) off fuse)) (DCells (.slice none 0 0) false 0); simpa using this⟩
  have HW := Lib.hid (show writeD (los l, off, fuse) n k s = actD (los l, off, fuse) (wrongW (los l, off, fuse) n k s) (withF (los l) (putOps (fileOf (los l, off, fuse) n) k s)) from rfl)
  have hcs := wrong_cases (los l, off, fuse) n k s
  generalize writeD (los l, off, fuse) n k s = res at *
  generalize wrongW (los l, off, fuse) n k s = wr at *
  have HCS := Lib.hid hcs
  clear hcs
  obtain ⟨y0, y1, y2⟩ := dcells hx1
  obtain ⟨z0, z1, z2⟩ := dcells hy1
  have s0 := is_some z0
  have s1 := is_some z1
  have s2 := is_some z2
  have f0 := heap_free hy1 0
  have f1 := heap_free hy1 1
  have f2 := heap_free hy1 2
  have C := rplace_walk (.slice a l.length c) off fuse l n w1 (HR.out.below hB1).1 hcnt
  have HNA := Lib.hid (fun w => (rname_walk n w hnl).mono (R' := fun e w' => e = .returned (.bool (nameB n)) ∧ Below w.heap.size w w') (fun _ _ h => ⟨h.1, h.2 ▸ Below.refl _ _⟩))
  obtain ⟨pk, hpk⟩ : ∃ pk, placeD l n = pk := ⟨_, rfl⟩
  rw [hpk] at C
  clear s0 s1 s2 f0 f1 f2
  go_enter Try.func31, Try.ntmps31
  go_upto_region 1 with fail
  rw [← hw1]
  clear hw1
  go_wp2_with fail
  refine C.mono ?_
  rintro e w2 ⟨rfl, hb2⟩
  have hB2 := below_chain hB1 hb2 hB1.size
  have hx2 := kept hb2 hx1
  have hy2 := kept hb2 hy1
  clear C y0 y1 y2 z0 z1 z2 hx1 hy1 hB1 hb2
  obtain ⟨y0, y1, y2⟩ := dcells hx2
  obtain ⟨z0, z1, z2⟩ := dcells hy2
  have s0 := is_some z0
  have s1 := is_some z1
  have s2 := is_some z2
  have f0 := heap_free hy2 0
  have f1 := heap_free hy2 1
  have f2 := heap_free hy2 2
  cases off with
  | true =>
    go_wp2
    refine bodyPost_ret (v := .tuple #[DiskV (.slice a l.length c) true fuse, .int .i64 13]) (by simp [results, Try.results31, go_sem, s0, s1, s2]) rfl ?_
    have hB3 := dstore_below hB2 (b := w.heap.size + 1) (by omega) (.slice a l.length c) (.bool true) (.int .i64 fuse)
    exact ⟨_, _, _, l, _, rfl, HR.out.below hB3, HW.out.trans (by simp [actD]), hB3⟩
  | false =>
  have CN := HNA.out w2
  clear HNA
  obtain ⟨q, hq⟩ : ∃ q, nameB n = q := ⟨_, rfl⟩
  rw [hq] at CN
  have HQ1 := Lib.hid hq
  clear hq
  go_wp2_with fail
  refine CN.mono ?_
  rintro e w3 ⟨rfl, hb3⟩
  have hB3 := below_chain hB2 hb3 hB2.size
  have hx3 := kept hb3 hx2
  have hy3 := kept hb3 hy2
  clear CN y0 y1 y2 z0 z1 z2 s0 s1 s2 f0 f1 f2 hx2 hy2 hB2 hb3
  obtain ⟨y0, y1, y2⟩ := dcells hx3
  obtain ⟨z0, z1, z2⟩ := dcells hy3
  have s0 := is_some z0
  have s1 := is_some z1
  have s2 := is_some z2
  have f0 := heap_free hy3 0
  have f1 := heap_free hy3 1
  have f2 := heap_free hy3 2
  rcases HCS.out with ⟨q1, rfl⟩ | ⟨q1, q2, rfl⟩ | ⟨q1, q2, q3, rfl⟩ | ⟨q1, q2, q3, q4, rfl⟩ | ⟨q1, q2, q3, q4, hq⟩
  ·
    obtain rfl : q = false := HQ1.out.symm.trans q1
    clear q1 HCS
    go_wp2
    refine bodyPost_ret (v := .tuple #[DiskV (.slice a l.length c) false fuse, .int .i64 7]) (by simp [results, Try.results31, go_sem, s0, s1, s2]) rfl ?_
    have hB4 := dstore_below hB3 (b := w.heap.size + 1) (by omega) (.slice a l.length c) (.bool false) (.int .i64 fuse)
    exact ⟨_, _, _, l, _, rfl, HR.out.below hB4, HW.out.trans (by simp [actD]), hB4⟩
  ·
    obtain rfl : q = true := HQ1.out.symm.trans q1
    clear q1 HCS
    go_wp2
    refine bodyPost_ret (v := .tuple #[DiskV (.slice a l.length c) false fuse, .int .i64 4]) (by simp [results, Try.results31, go_sem, s0, s1, s2]) rfl ?_
    have hB4 := dstore_below hB3 (b := w.heap.size + 1) (by omega) (.slice a l.length c) (.bool false) (.int .i64 fuse)
    exact ⟨_, _, _, l, _, rfl, HR.out.below hB4, HW.out.trans (by simp [actD]), hB4⟩
  ·
    obtain rfl : q = true := HQ1.out.symm.trans q1
    clear q1 HCS
    go_wp2
    refine bodyPost_ret (v := .tuple #[DiskV (.slice a l.length c) false fuse, .int .i64 4]) (by simp [results, Try.results31, go_sem, s0, s1, s2]) rfl ?_
    have hB4 := dstore_below hB3 (b := w.heap.size + 1) (by omega) (.slice a l.length c) (.bool false) (.int .i64 fuse)
    exact ⟨_, _, _, l, _, rfl, HR.out.below hB4, HW.out.trans (by simp [actD]), hB4⟩
  ·
    obtain rfl : q = true := HQ1.out.symm.trans q1
    clear q1 HCS
    have hwr : IntKind.i64.wrap (262144 - k) = 262144 - k := by rw [IntKind.wrap_i64]; omega
    go_wp2
    refine bodyPost_ret (v := .tuple #[DiskV (.slice a l.length c) false fuse, .int .i64 4]) (by simp [results, Try.results31, go_sem, s0, s1, s2]) rfl ?_
    have hB4 := dstore_below hB3 (b := w.heap.size + 1) (by omega) (.slice a l.length c) (.bool false) (.int .i64 fuse)
    exact ⟨_, _, _, l, _, rfl, HR.out.below hB4, HW.out.trans (by simp [actD]), hB4⟩
  have HQ := Lib.hid hq
  clear hq
  obtain rfl : q = true := HQ1.out.symm.trans q1
  clear q1 HCS
  have hwr : IntKind.i64.wrap (262144 - k) = 262144 - k := by rw [IntKind.wrap_i64]; omega
  by_cases hin : n ∈ l.map DF.name
  case neg =>
    rw [place_out hin] at hpk
    subst hpk
    have hfn := findF_out hin
    have hfo : fileOf (los l, false, fuse) n = (n, [], []) := by unfold fileOf; rw [hfn]; rfl
    rcases HQ.out with ⟨q5, q6, rfl⟩ | ⟨q5, (⟨q6, q7, rfl⟩ | ⟨q6, q7, rfl⟩ | ⟨q6, rfl⟩)⟩
    · have q8 : (8 : Int) ≤ (l.length : Int) := by rw [los_len] at q6; omega
      clear HQ q5 q6 hin hfn hfo hup
      go_wp2
      refine bodyPost_ret (v := .tuple #[DiskV (.slice a l.length c) false fuse, .int .i64 9]) (by simp [results, Try.results31, go_sem, s0, s1, s2]) rfl ?_
      have hB4 := dstore_below hB3 (b := w.heap.size + 1) (by omega) (.slice a l.length c) (.bool false) (.int .i64 fuse)
      exact ⟨_, _, _, l, _, rfl, HR.out.below hB4, HW.out.trans (by simp [actD]), hB4⟩
    · exfalso; rw [hfo] at q7; simp at q7
    · have q8 : ¬ (8 : Int) ≤ (l.length : Int) := by intro h8; exact q5 ⟨by rw [hfn]; rfl, by rw [los_len]; omega⟩
      have HPUT := Lib.hid (show putOps (fileOf (los l, false, fuse) n) k s = (n, [], [(k, s)]) by unfold putOps; rw [if_neg q6, hfo]; rfl)
      have q6a : (s == []) = false := by rw [beq_eq_false_iff_ne]; exact q6
      have q6b : (s != []) = true := by rw [bne_iff_ne]; exact q6
      have q6c : s.isEmpty = false := by cases s with | nil => exact absurd rfl q6 | cons => rfl
      clear HQ q5 q6 q7 hin hfn hfo
      have CP := rpower_walk a l.length c false fuse w3 hf1 hf2
      go_wp2_with fail
      refine CP.mono ?_
      rintro e w4 ⟨off', fuse', err, rfl, hpow, hb4⟩
      have hB4 := below_chain hB3 hb4 hB3.size
      have hx4 := kept hb4 hx3
      have hy4 := kept hb4 hy3
      clear CP y0 y1 y2 z0 z1 z2 s0 s1 s2 f0 f1 f2 hx3 hy3 hB3 hb4
      have hbl := heap_lt hx4
      obtain ⟨w5, hw5, hx5, hy5, hB5⟩ : ∃ w5, w5 = (((w4.setCell ⟨w.heap.size, 0, none⟩ (.slice a l.length c)).setCell ⟨w.heap.size, 1, none⟩ (.bool off')).setCell ⟨w.heap.size, 2, none⟩ (.int .i64 fuse')) ∧ w5.heap[w.heap.size]? = some (DCells (.slice a l.length c) off' fuse') ∧ w5.heap[w.heap.size + 1]? = some (DCells (.slice none 0 0) false 0) ∧ Below w.heap.size w w5 :=
        ⟨_, rfl, dstore hx4, (dstore_other (by omega) _ _ _).trans hy4, dstore_below hB4 (Nat.le_refl _) _ _ _⟩
      obtain ⟨y0, y1, y2⟩ := dcells hx4
      have s0 := is_some y0
      have s1 := is_some y1
      have s2 := is_some y2
      have f0 := heap_free hx4 0
      have f1 := heap_free hx4 1
      have f2 := heap_free hx4 2
      have HACT := Lib.hid (act_power (ls := los l) (fs := withF (los l) (putOps (fileOf (los l, false, fuse) n) k s)) hpow)
      clear hpow
      go_upto_region 11 with fail
      rw [← hw5]
      clear hw5 y0 y1 y2 s0 s1 s2 f0 f1 f2 hx4 hy4 hB4
      obtain ⟨y0, y1, y2⟩ := dcells hx5
      obtain ⟨z0, z1, z2⟩ := dcells hy5
      have s0 := is_some z0
      have s1 := is_some z1
      have s2 := is_some z2
      have f0 := heap_free hy5 0
      have f1 := heap_free hy5 1
      have f2 := heap_free hy5 2
      by_cases he : err = 0
      case neg =>
        have he' : (err != 0) = true := by rw [bne_iff_ne]; exact he
        have he2 : (err == 0) = false := by rw [beq_eq_false_iff_ne]; exact he
        go_wp2
        refine bodyPost_ret (v := .tuple #[DiskV (.slice a l.length c) off' fuse', .int .i64 err]) (by simp [results, Try.results31, go_sem, s0, s1, s2]) rfl ?_
        have hB6 := dstore_below hB5 (b := w.heap.size + 1) (by omega) (.slice a l.length c) (.bool off') (.int .i64 fuse')
        exact ⟨_, _, _, l, _, rfl, HR.out.below hB6, by rw [HW.out, HACT.out.2 he], hB6⟩
      subst he
      have HRES := Lib.hid (HACT.out.1 rfl)
      clear s0 s1 s2 f0 f1 f2 z0 z1 z2 HACT
      obtain ⟨i0, hi, hz0, hz1, hz2⟩ := info_parts infoOp
      go_upto_region 19 with fail
      obtain ⟨w6, hw6, hx6, hy6, hz6, hB6⟩ : ∃ w6, w6 = w5.alloc (.cells #[S (n), S ([]), .slice none 0 0] 50) ∧ w6.heap[w.heap.size]? = some (DCells (.slice a l.length c) off' fuse') ∧ w6.heap[w.heap.size + 1]? = some (DCells (.slice none 0 0) false 0) ∧ w6.heap[w5.heap.size]? = some (.cells #[S (n), S ([]), .slice none 0 0] 50 (0, 0)) ∧ Below w.heap.size w w6 :=
        ⟨_, rfl, (Below.heap_alloc _ _ _ (heap_lt hx5)).trans hx5, (Below.heap_alloc _ _ _ (heap_lt hy5)).trans hy5, heap_alloc_new _ _, hB5.alloc hB5.size _⟩
      have hl5 := heap_lt hy5
      rw [← hw6]
      clear hw6 hx5 hy5 hB5
      have hnil := World.ownsRow_nil w6 w6.heap.size 69 2
      go_wp2_with (at_builtin; refine wpList_append_own _ rfl _ _ 48 rfl w6.heap.size 69 i0 (.agg #[.int .i64 0, .string ⟨#[]⟩]) 2 24 Try.underlying48 hi hz0 hz1 hz2 rfl (by decide) _ _ _ rfl (hnil.alloc _) ⟨w6.heap.size, 0, none⟩ 1 1 [.int .i64 k, S s] rfl rfl (new_cells _ _ _ _) (op2_one k s) (by unfold maxLen; omega) (by omega) (by rw [World.size_alloc]; have := (Below.refl w6.heap.size w6).size; omega) ?_)
      intro v7 w7 hown7 hgrow7 _
      have hb7 : Below w6.heap.size w6 w7 := ((Below.refl w6.heap.size w6).alloc ((Below.refl w6.heap.size w6).size) (.cells #[.int .i64 k, S s] 69)).grown hgrow7 (by rw [World.size_alloc]; have := (Below.refl w6.heap.size w6).size; omega) (fun j hj => (hnil.lt j hj).1)
      have hB7 := below_chain hB6 hb7 hB6.size
      have hx7 := kept hb7 hx6
      have hy7 := kept hb7 hy6
      have hz7 := kept hb7 hz6
      obtain ⟨a3, n3, c3, rfl⟩ := own_slice hown7
      have c72 := heap_cell hz7 (j := 2) (v := .slice none 0 0) rfl
      have r2 := is_some c72
      have g2 := heap_free hz7 2
      have hl6 := heap_lt hx6
      have hl6' := heap_lt hy6
      have hlf := heap_lt hz6
      have hl7 := heap_lt hx7
      have HOW7 := Lib.hid hown7
      clear hown7 hgrow7  y0 y1 y2
      go_upto_region 20 with fail
      obtain ⟨w9, hw9, hx9, hy9, hz9, hB9, hown9⟩ : ∃ w9, w9 = w7.setCell ⟨w5.heap.size, 2, none⟩ (.slice a3 n3 c3) ∧ w9.heap[w.heap.size]? = some (DCells (.slice a l.length c) off' fuse') ∧ w9.heap[w.heap.size + 1]? = some (DCells (.slice none 0 0) false 0) ∧ w9.heap[w5.heap.size]? = some (.cells #[S (n), S ([]), .slice a3 n3 c3] 50 (0, 0)) ∧ Below w.heap.size w w9 ∧ World.ownsRow w9 w6.heap.size 69 2 (.slice a3 n3 c3) ([] ++ [(k, s)]).length (([] ++ [(k, s)]).flatMap opC) :=
        ⟨_, rfl, (Below.heap_setCell _ _ _ _ (show w.heap.size ≠ w5.heap.size by omega)).trans hx7, (Below.heap_setCell _ _ _ _ (show w.heap.size + 1 ≠ w5.heap.size by omega)).trans hy7, by have h9 := heap_set_cell (o := 2) hz7 (.slice a3 n3 c3); simpa using h9, below_setC hB7 (by omega) 2 _, by have h9 := own_set (o := 2) (u := .slice a3 n3 c3) HOW7.out hlf; simpa using h9⟩
      rw [← hw9]
      have hlo : w.heap.size < w6.heap.size := hl6
      have hlo' : w.heap.size + 1 < w6.heap.size := hl6'
      have HOWO := Lib.hid hown9
      have hop6 : OpRow w9 (.slice a3 n3 c3) ([] ++ [(k, s)]) := Row.of_ownsK opC_len hown9
      have hwz : w6.heap.size ≤ w9.heap.size := by have h9 := hb7.size; rw [hw9, size_setCell']; exact h9
      clear hw9 hx7 hy7 hz7 hB7 hb7 c72 r2 g2 HOW7 hx6 hy6 hz6 hB6 hl6 hl6' hlf hl7 hown9
      have hl6 := heap_lt hx9
      have hl6' := heap_lt hy9
      have CI := rwith_walk (.slice a l.length c) l ⟨n, [], .slice a3 n3 c3, [] ++ [(k, s)]⟩ w9 (HR.out.below hB9) hop6 hcnt hup
      obtain ⟨y0, y1, y2⟩ := dcells hx9
      have t0 := heap_cell hz9 (j := 0) (v := S (n)) rfl
      have t1 := heap_cell hz9 (j := 1) (v := S ([])) rfl
      have t2 := heap_cell hz9 (j := 2) (v := .slice a3 n3 c3) rfl
      go_wp2_with fail
      refine CI.mono ?_
      rintro e w8 ⟨v8, rfl, hown8, hb8⟩
      have hB8 := below_chain hB9 hb8 hB9.size
      have hx8 := kept hb8 hx9
      have hy8 := kept hb8 hy9
      obtain ⟨va, vn, vc, rfl⟩ := own_slice hown8
      have HOWN := Lib.hid hown8
      have HOP6 := Lib.hid hop6
      have HB68 := Lib.hid hb8
      clear CI y0 y1 y2 t0 t1 t2 hx9 hy9 hz9 hown8 hop6 hb8
      obtain ⟨y0, y1, y2⟩ := dcells hx8
      have r0 := is_some y0
      have g0 := heap_free hx8 0
      obtain ⟨z0, z1, z2⟩ := dcells hy8
      have s0 := is_some z0
      have s1 := is_some z1
      have s2 := is_some z2
      have f0 := heap_free hy8 0
      have f1 := heap_free hy8 1
      have f2 := heap_free hy8 2
      have HB11 := Lib.hid (dstore_below (below_setC hB8 (Nat.le_refl _) 0 (.slice va vn vc)) (b := w.heap.size + 1) (by omega) (.slice va vn vc) (.bool off') (.int .i64 fuse'))
      go_wp2
      refine bodyPost_ret (v := .tuple #[DiskV (.slice va vn vc) off' fuse', .int .i64 0]) (by simp [results, Try.results31, go_sem, s0, s1, s2]) rfl ?_
      refine ⟨_, _, _, withK DF.name l ⟨n, [], .slice a3 n3 c3, [] ++ [(k, s)]⟩, _, rfl, ⟨own_row (own_set (own_set (own_set (own_set HOWN.out hl6) hl6') hl6') hl6'), fun x hx => ?_⟩, ?_, HB11.out⟩
      · rcases withK_memR hx with rfl | hx
        · exact Row.of_ownsK opC_len (own_set (own_set (own_set (own_set (own_keep HOWO.out (fun g h7 h8 => HB68.out.block g h8)) hlo) hlo') hlo') hlo')
        · exact (HOPS.out x hx).below HB11.out
      · rw [HW.out, HRES.out]
        have e1 : los (withK DF.name l ⟨n, [], .slice a3 n3 c3, [] ++ [(k, s)]⟩) = withF (los l) (n, [], [] ++ [(k, s)]) := withK_map (key := DF.name) (key' := fun x : LF => x.1) (fun _ => rfl) _ _
        rw [e1]
        have h9 := HPUT.out
        first | (rw [h9]; done) | (rw [h9]; rfl)
    · have q8 : ¬ (8 : Int) ≤ (l.length : Int) := by intro h8; exact q5 ⟨by rw [hfn]; rfl, by rw [los_len]; omega⟩
      have HPUT := Lib.hid (show putOps (fileOf (los l, false, fuse) n) k s = (n, [], []) by unfold putOps; rw [if_pos q6, hfo])
      have q6a : (s == []) = true := by rw [beq_iff_eq]; exact q6
      have q6b : (s != []) = false := by rw [bne_eq_false_iff_eq]; exact q6
      have q6c : s.isEmpty = true := by rw [q6]; rfl
      clear HQ q5 q6 hin hfn hfo
      have CP := rpower_walk a l.length c false fuse w3 hf1 hf2
      go_wp2_with fail
      refine CP.mono ?_
      rintro e w4 ⟨off', fuse', err, rfl, hpow, hb4⟩
      have hB4 := below_chain hB3 hb4 hB3.size
      have hx4 := kept hb4 hx3
      have hy4 := kept hb4 hy3
      clear CP y0 y1 y2 z0 z1 z2 s0 s1 s2 f0 f1 f2 hx3 hy3 hB3 hb4
      have hbl := heap_lt hx4
      obtain ⟨w5, hw5, hx5, hy5, hB5⟩ : ∃ w5, w5 = (((w4.setCell ⟨w.heap.size, 0, none⟩ (.slice a l.length c)).setCell ⟨w.heap.size, 1, none⟩ (.bool off')).setCell ⟨w.heap.size, 2, none⟩ (.int .i64 fuse')) ∧ w5.heap[w.heap.size]? = some (DCells (.slice a l.length c) off' fuse') ∧ w5.heap[w.heap.size + 1]? = some (DCells (.slice none 0 0) false 0) ∧ Below w.heap.size w w5 :=
        ⟨_, rfl, dstore hx4, (dstore_other (by omega) _ _ _).trans hy4, dstore_below hB4 (Nat.le_refl _) _ _ _⟩
      obtain ⟨y0, y1, y2⟩ := dcells hx4
      have s0 := is_some y0
      have s1 := is_some y1
      have s2 := is_some y2
      have f0 := heap_free hx4 0
      have f1 := heap_free hx4 1
      have f2 := heap_free hx4 2
      have HACT := Lib.hid (act_power (ls := los l) (fs := withF (los l) (putOps (fileOf (los l, false, fuse) n) k s)) hpow)
      clear hpow
      go_upto_region 11 with fail
      rw [← hw5]
      clear hw5 y0 y1 y2 s0 s1 s2 f0 f1 f2 hx4 hy4 hB4
      obtain ⟨y0, y1, y2⟩ := dcells hx5
      obtain ⟨z0, z1, z2⟩ := dcells hy5
      have s0 := is_some z0
      have s1 := is_some z1
      have s2 := is_some z2
      have f0 := heap_free hy5 0
      have f1 := heap_free hy5 1
      have f2 := heap_free hy5 2
      by_cases he : err = 0
      case neg =>
        have he' : (err != 0) = true := by rw [bne_iff_ne]; exact he
        have he2 : (err == 0) = false := by rw [beq_eq_false_iff_ne]; exact he
        go_wp2
        refine bodyPost_ret (v := .tuple #[DiskV (.slice a l.length c) off' fuse', .int .i64 err]) (by simp [results, Try.results31, go_sem, s0, s1, s2]) rfl ?_
        have hB6 := dstore_below hB5 (b := w.heap.size + 1) (by omega) (.slice a l.length c) (.bool off') (.int .i64 fuse')
        exact ⟨_, _, _, l, _, rfl, HR.out.below hB6, by rw [HW.out, HACT.out.2 he], hB6⟩
      subst he
      have HRES := Lib.hid (HACT.out.1 rfl)
      clear s0 s1 s2 f0 f1 f2 z0 z1 z2 HACT
      go_upto_region 20 with fail
      obtain ⟨w6, hw6, hx6, hy6, hz6, hB6⟩ : ∃ w6, w6 = w5.alloc (.cells #[S (n), S ([]), .slice none 0 0] 50) ∧ w6.heap[w.heap.size]? = some (DCells (.slice a l.length c) off' fuse') ∧ w6.heap[w.heap.size + 1]? = some (DCells (.slice none 0 0) false 0) ∧ w6.heap[w5.heap.size]? = some (.cells #[S (n), S ([]), .slice none 0 0] 50 (0, 0)) ∧ Below w.heap.size w w6 :=
        ⟨_, rfl, (Below.heap_alloc _ _ _ (heap_lt hx5)).trans hx5, (Below.heap_alloc _ _ _ (heap_lt hy5)).trans hy5, heap_alloc_new _ _, hB5.alloc hB5.size _⟩
      rw [← hw6]
      clear hw6 hx5 hy5 hB5 y0 y1 y2
      have hop6 : OpRow w6 (.slice none 0 0) [] := Row.nil _ _
      have hl6 := heap_lt hx6
      have hl6' := heap_lt hy6
      have CI := rwith_walk (.slice a l.length c) l ⟨n, [], .slice none 0 0, []⟩ w6 (HR.out.below hB6) hop6 hcnt hup
      obtain ⟨y0, y1, y2⟩ := dcells hx6
      have t0 := heap_cell hz6 (j := 0) (v := S (n)) rfl
      have t1 := heap_cell hz6 (j := 1) (v := S ([])) rfl
      have t2 := heap_cell hz6 (j := 2) (v := .slice none 0 0) rfl
      go_wp2_with fail
      refine CI.mono ?_
      rintro e w8 ⟨v8, rfl, hown8, hb8⟩
      have hB8 := below_chain hB6 hb8 hB6.size
      have hx8 := kept hb8 hx6
      have hy8 := kept hb8 hy6
      obtain ⟨va, vn, vc, rfl⟩ := own_slice hown8
      have HOWN := Lib.hid hown8
      have HOP6 := Lib.hid hop6
      have HB68 := Lib.hid hb8
      clear CI y0 y1 y2 t0 t1 t2 hx6 hy6 hz6 hown8 hop6 hb8
      obtain ⟨y0, y1, y2⟩ := dcells hx8
      have r0 := is_some y0
      have g0 := heap_free hx8 0
      obtain ⟨z0, z1, z2⟩ := dcells hy8
      have s0 := is_some z0
      have s1 := is_some z1
      have s2 := is_some z2
      have f0 := heap_free hy8 0
      have f1 := heap_free hy8 1
      have f2 := heap_free hy8 2
      have HB11 := Lib.hid (dstore_below (below_setC hB8 (Nat.le_refl _) 0 (.slice va vn vc)) (b := w.heap.size + 1) (by omega) (.slice va vn vc) (.bool off') (.int .i64 fuse'))
      go_wp2
      refine bodyPost_ret (v := .tuple #[DiskV (.slice va vn vc) off' fuse', .int .i64 0]) (by simp [results, Try.results31, go_sem, s0, s1, s2]) rfl ?_
      refine ⟨_, _, _, withK DF.name l ⟨n, [], .slice none 0 0, []⟩, _, rfl, ⟨own_row (own_set (own_set (own_set (own_set HOWN.out hl6) hl6') hl6') hl6'), fun x hx => ?_⟩, ?_, HB11.out⟩
      · rcases withK_memR hx with rfl | hx
        · exact Row.nil _ _
        · exact (HOPS.out x hx).below HB11.out
      · rw [HW.out, HRES.out]
        have e1 : los (withK DF.name l ⟨n, [], .slice none 0 0, []⟩) = withF (los l) (n, [], []) := withK_map (key := DF.name) (key' := fun x : LF => x.1) (fun _ => rfl) _ _
        rw [e1]
        have h9 := HPUT.out
        first | (rw [h9]; done) | (rw [h9]; rfl)
  rw [place_in hup hin] at hpk
  subst hpk
  obtain ⟨hk, hnm, hf⟩ := findF_in hup hin
  have hfo0 : fileOf (los l, false, fuse) n = l[posL (l.map DF.name) n].lo := by unfold fileOf; rw [hf]; rfl
  have HOPK := Lib.hid (HOPS.out l[posL (l.map DF.name) n] (by simp))
  have hosl0 := hol l[posL (l.map DF.name) n] (by simp)
  generalize posL (l.map DF.name) n = kk at *
  have hkn : ¬ (kk : Int) < 0 := by omega
  have hkn2 : (0 : Int) ≤ (kk : Int) := by omega
  have hk' : (kk : Int) < (l.length : Int) := by omega
  have hx := HR.out.1
  obtain ⟨a', c', hv', _, _, hx⟩ := hx
  cases hv'
  rcases hx with hx | ⟨bx, ox, hax, hx⟩
  · exfalso; rw [hx] at hk; simp at hk
  subst hax
  obtain ⟨hp1, hp2, hp3⟩ := df_cells hx hk
  clear hx
  have hopk := HOPK.out
  have hfnn : (findF (los l) n).isNone = false := by rw [hf]; rfl
  clear hf hnm
  generalize l[kk] = y at *
  obtain ⟨nm, dt, ov, os⟩ := y
  simp only at hp1 hp2 hp3 hopk hosl0
  have hopk' : OpRow w ov os := hopk
  obtain ⟨oa, oc, rfl, _⟩ := hopk'
  have hosl : os.length ≤ 1000 := hosl0
  have hfo : fileOf (los l, false, fuse) n = (nm, dt, os) := hfo0
  have hc1 := cell_below hB3 hp1
  have hc2 := cell_below hB3 hp2
  have hc3 := cell_below hB3 hp3
  rcases HQ.out with ⟨q5, q6, rfl⟩ | ⟨q5, (⟨q6, q7, rfl⟩ | ⟨q6, q7, rfl⟩ | ⟨q6, rfl⟩)⟩
  · exfalso; rw [hfnn] at q5; cases q5
  · have q7i : (200 : Int) ≤ (os.length : Int) := by rw [hfo] at q7; simp only at q7; omega
    have q6a : (s == []) = false := by rw [beq_eq_false_iff_ne]; exact q6
    have q6b : (s != []) = true := by rw [bne_iff_ne]; exact q6
    have q6c : s.isEmpty = false := by cases s with | nil => exact absurd rfl q6 | cons => rfl
    clear HQ q5 q6 q7 hin hfo hfo0 hup hfnn
    go_wp2
    refine bodyPost_ret (v := .tuple #[DiskV (.slice (some ⟨bx, ox, none⟩) l.length c) false fuse, .int .i64 9]) (by simp [results, Try.results31, go_sem, s0, s1, s2]) rfl ?_
    have hB4 := dstore_below hB3 (b := w.heap.size + 1) (by omega) (.slice (some ⟨bx, ox, none⟩) l.length c) (.bool false) (.int .i64 fuse)
    exact ⟨_, _, _, l, _, rfl, HR.out.below hB4, HW.out.trans (by simp [actD]), hB4⟩
  · have q7j : ¬ (200 : Int) ≤ (os.length : Int) := by rw [hfo] at q7; simp only at q7; omega
    have HPUT := Lib.hid (show putOps (fileOf (los l, false, fuse) n) k s = (nm, dt, os ++ [(k, s)]) by unfold putOps; rw [if_neg q6, hfo])
    have q6a : (s == []) = false := by rw [beq_eq_false_iff_ne]; exact q6
    have q6b : (s != []) = true := by rw [bne_iff_ne]; exact q6
    have q6c : s.isEmpty = false := by cases s with | nil => exact absurd rfl q6 | cons => rfl
    clear HQ q5 q6 q7 hin hfo hfo0 hfnn
    have CP := rpower_walk (some ⟨bx, ox, none⟩) l.length c false fuse w3 hf1 hf2
    go_wp2_with fail
    refine CP.mono ?_
    rintro e w4 ⟨off', fuse', err, rfl, hpow, hb4⟩
    have hB4 := below_chain hB3 hb4 hB3.size
    have hx4 := kept hb4 hx3
    have hy4 := kept hb4 hy3
    clear hc1 hc2 hc3 CP y0 y1 y2 z0 z1 z2 s0 s1 s2 f0 f1 f2 hx3 hy3 hB3 hb4
    have hbl := heap_lt hx4
    obtain ⟨w5, hw5, hx5, hy5, hB5⟩ : ∃ w5, w5 = (((w4.setCell ⟨w.heap.size, 0, none⟩ (.slice (some ⟨bx, ox, none⟩) l.length c)).setCell ⟨w.heap.size, 1, none⟩ (.bool off')).setCell ⟨w.heap.size, 2, none⟩ (.int .i64 fuse')) ∧ w5.heap[w.heap.size]? = some (DCells (.slice (some ⟨bx, ox, none⟩) l.length c) off' fuse') ∧ w5.heap[w.heap.size + 1]? = some (DCells (.slice none 0 0) false 0) ∧ Below w.heap.size w w5 :=
      ⟨_, rfl, dstore hx4, (dstore_other (by omega) _ _ _).trans hy4, dstore_below hB4 (Nat.le_refl _) _ _ _⟩
    obtain ⟨y0, y1, y2⟩ := dcells hx4
    have s0 := is_some y0
    have s1 := is_some y1
    have s2 := is_some y2
    have f0 := heap_free hx4 0
    have f1 := heap_free hx4 1
    have f2 := heap_free hx4 2
    have HACT := Lib.hid (act_power (ls := los l) (fs := withF (los l) (putOps (fileOf (los l, false, fuse) n) k s)) hpow)
    clear hpow
    go_upto_region 11 with fail
    rw [← hw5]
    clear hw5 y0 y1 y2 s0 s1 s2 f0 f1 f2 hx4 hy4 hB4
    obtain ⟨y0, y1, y2⟩ := dcells hx5
    obtain ⟨z0, z1, z2⟩ := dcells hy5
    have s0 := is_some z0
    have s1 := is_some z1
    have s2 := is_some z2
    have f0 := heap_free hy5 0
    have f1 := heap_free hy5 1
    have f2 := heap_free hy5 2
    by_cases he : err = 0
    case neg =>
      have he' : (err != 0) = true := by rw [bne_iff_ne]; exact he
      have he2 : (err == 0) = false := by rw [beq_eq_false_iff_ne]; exact he
      go_wp2
      refine bodyPost_ret (v := .tuple #[DiskV (.slice (some ⟨bx, ox, none⟩) l.length c) off' fuse', .int .i64 err]) (by simp [results, Try.results31, go_sem, s0, s1, s2]) rfl ?_
      have hB6 := dstore_below hB5 (b := w.heap.size + 1) (by omega) (.slice (some ⟨bx, ox, none⟩) l.length c) (.bool off') (.int .i64 fuse')
      exact ⟨_, _, _, l, _, rfl, HR.out.below hB6, by rw [HW.out, HACT.out.2 he], hB6⟩
    subst he
    have HRES := Lib.hid (HACT.out.1 rfl)
    clear s0 s1 s2 f0 f1 f2 z0 z1 z2 HACT
    have hc1 := cell_below hB5 hp1
    have hc2 := cell_below hB5 hp2
    have hc3 := cell_below hB5 hp3
    have yq0 := fun X => cell_old y0 X
    have hq1 := fun X => cell_old hc1 X
    have hq2 := fun X => cell_old hc2 X
    have hq3 := fun X => cell_old hc3 X
    obtain ⟨i0, hi, hz0, hz1, hz2⟩ := info_parts infoOp
    go_upto_region 18 with fail
    obtain ⟨w6, hw6, hx6, hy6, hz6, hB6⟩ : ∃ w6, w6 = w5.alloc (.cells #[S (nm), S (dt), .slice oa os.length oc] 50) ∧ w6.heap[w.heap.size]? = some (DCells (.slice (some ⟨bx, ox, none⟩) l.length c) off' fuse') ∧ w6.heap[w.heap.size + 1]? = some (DCells (.slice none 0 0) false 0) ∧ w6.heap[w5.heap.size]? = some (.cells #[S (nm), S (dt), .slice oa os.length oc] 50 (0, 0)) ∧ Below w.heap.size w w6 :=
      ⟨_, rfl, (Below.heap_alloc _ _ _ (heap_lt hx5)).trans hx5, (Below.heap_alloc _ _ _ (heap_lt hy5)).trans hy5, heap_alloc_new _ _, hB5.alloc hB5.size _⟩
    rw [← hw6]
    have hl5 := heap_lt hy5
    clear hw6 hx5 hy5 hB5 yq0 hq1 hq2 hq3 hc1 hc2 hc3 hp1 hp2 hp3
    have hnil := World.ownsRow_nil w6 w6.heap.size 69 2
    have t2 := heap_cell hz6 (j := 2) (v := .slice oa os.length oc) rfl
    have hrow := row_flatK (K := 2) opC_len (by decide) (hopk.below hB6)
    cases oa with
    | none =>
      have hos : os.flatMap opC = [] := by
        rcases hrow with h | ⟨b', o', h, _⟩
        · exact h
        · cases h
      have hos2 : os = [] := by
        have h9 := flat_lenK opC_len os
        rw [hos] at h9
        exact List.length_eq_zero_iff.1 (by simp at h9; omega)
      subst hos2
      clear hrow hos
      go_upto_region 19 with fail
      clear t2
      go_wp2_with (at_builtin; refine wpList_append_own _ rfl _ _ 48 rfl w6.heap.size 69 i0 (.agg #[.int .i64 0, .string ⟨#[]⟩]) 2 24 Try.underlying48 hi hz0 hz1 hz2 rfl (by decide) _ _ _ rfl (hnil.alloc _) ⟨w6.heap.size, 0, none⟩ 1 1 [.int .i64 k, S s] rfl rfl (new_cells _ _ _ _) (op2_one k s) (by unfold maxLen; omega) (by omega) (by rw [World.size_alloc]; have := (Below.refl w6.heap.size w6).size; omega) ?_)
      intro v7 w7 hown7 hgrow7 _
      have hb7 : Below w6.heap.size w6 w7 := ((Below.refl w6.heap.size w6).alloc ((Below.refl w6.heap.size w6).size) (.cells #[.int .i64 k, S s] 69)).grown hgrow7 (by rw [World.size_alloc]; have := (Below.refl w6.heap.size w6).size; omega) (fun j hj => (hnil.lt j hj).1)
      have hB7 := below_chain hB6 hb7 hB6.size
      have hx7 := kept hb7 hx6
      have hy7 := kept hb7 hy6
      have hz7 := kept hb7 hz6
      obtain ⟨a3, n3, c3, rfl⟩ := own_slice hown7
      have c72 := heap_cell hz7 (j := 2) (v := .slice none 0 oc) rfl
      have r2 := is_some c72
      have g2 := heap_free hz7 2
      have hl6 := heap_lt hx6
      have hl6' := heap_lt hy6
      have hlf := heap_lt hz6
      have hl7 := heap_lt hx7
      have HOW7 := Lib.hid hown7
      clear hown7 hgrow7  y0 y1 y2
      go_upto_region 20 with fail
      obtain ⟨w9, hw9, hx9, hy9, hz9, hB9, hown9⟩ : ∃ w9, w9 = w7.setCell ⟨w5.heap.size, 2, none⟩ (.slice a3 n3 c3) ∧ w9.heap[w.heap.size]? = some (DCells (.slice (some ⟨bx, ox, none⟩) l.length c) off' fuse') ∧ w9.heap[w.heap.size + 1]? = some (DCells (.slice none 0 0) false 0) ∧ w9.heap[w5.heap.size]? = some (.cells #[S (nm), S (dt), .slice a3 n3 c3] 50 (0, 0)) ∧ Below w.heap.size w w9 ∧ World.ownsRow w9 w6.heap.size 69 2 (.slice a3 n3 c3) ([] ++ [(k, s)]).length (([] ++ [(k, s)]).flatMap opC) :=
        ⟨_, rfl, (Below.heap_setCell _ _ _ _ (show w.heap.size ≠ w5.heap.size by omega)).trans hx7, (Below.heap_setCell _ _ _ _ (show w.heap.size + 1 ≠ w5.heap.size by omega)).trans hy7, by have h9 := heap_set_cell (o := 2) hz7 (.slice a3 n3 c3); simpa using h9, below_setC hB7 (by omega) 2 _, by have h9 := own_set (o := 2) (u := .slice a3 n3 c3) HOW7.out hlf; simpa using h9⟩
      rw [← hw9]
      have hlo : w.heap.size < w6.heap.size := hl6
      have hlo' : w.heap.size + 1 < w6.heap.size := hl6'
      have HOWO := Lib.hid hown9
      have hop6 : OpRow w9 (.slice a3 n3 c3) ([] ++ [(k, s)]) := Row.of_ownsK opC_len hown9
      have hwz : w6.heap.size ≤ w9.heap.size := by have h9 := hb7.size; rw [hw9, size_setCell']; exact h9
      clear hw9 hx7 hy7 hz7 hB7 hb7 c72 r2 g2 HOW7 hx6 hy6 hz6 hB6 hl6 hl6' hlf hl7 hown9
      have hl6 := heap_lt hx9
      have hl6' := heap_lt hy9
      have CI := rwith_walk (.slice (some ⟨bx, ox, none⟩) l.length c) l ⟨nm, dt, .slice a3 n3 c3, [] ++ [(k, s)]⟩ w9 (HR.out.below hB9) hop6 hcnt hup
      obtain ⟨y0, y1, y2⟩ := dcells hx9
      have t0 := heap_cell hz9 (j := 0) (v := S (nm)) rfl
      have t1 := heap_cell hz9 (j := 1) (v := S (dt)) rfl
      have t2 := heap_cell hz9 (j := 2) (v := .slice a3 n3 c3) rfl
      go_wp2_with fail
      refine CI.mono ?_
      rintro e w8 ⟨v8, rfl, hown8, hb8⟩
      have hB8 := below_chain hB9 hb8 hB9.size
      have hx8 := kept hb8 hx9
      have hy8 := kept hb8 hy9
      obtain ⟨va, vn, vc, rfl⟩ := own_slice hown8
      have HOWN := Lib.hid hown8
      have HOP6 := Lib.hid hop6
      have HB68 := Lib.hid hb8
      clear CI y0 y1 y2 t0 t1 t2 hx9 hy9 hz9 hown8 hop6 hb8
      obtain ⟨y0, y1, y2⟩ := dcells hx8
      have r0 := is_some y0
      have g0 := heap_free hx8 0
      obtain ⟨z0, z1, z2⟩ := dcells hy8
      have s0 := is_some z0
      have s1 := is_some z1
      have s2 := is_some z2
      have f0 := heap_free hy8 0
      have f1 := heap_free hy8 1
      have f2 := heap_free hy8 2
      have HB11 := Lib.hid (dstore_below (below_setC hB8 (Nat.le_refl _) 0 (.slice va vn vc)) (b := w.heap.size + 1) (by omega) (.slice va vn vc) (.bool off') (.int .i64 fuse'))
      go_wp2
      refine bodyPost_ret (v := .tuple #[DiskV (.slice va vn vc) off' fuse', .int .i64 0]) (by simp [results, Try.results31, go_sem, s0, s1, s2]) rfl ?_
      refine ⟨_, _, _, withK DF.name l ⟨nm, dt, .slice a3 n3 c3, [] ++ [(k, s)]⟩, _, rfl, ⟨own_row (own_set (own_set (own_set (own_set HOWN.out hl6) hl6') hl6') hl6'), fun x hx => ?_⟩, ?_, HB11.out⟩
      · rcases withK_memR hx with rfl | hx
        · exact Row.of_ownsK opC_len (own_set (own_set (own_set (own_set (own_keep HOWO.out (fun g h7 h8 => HB68.out.block g h8)) hlo) hlo') hlo') hlo')
        · exact (HOPS.out x hx).below HB11.out
      · rw [HW.out, HRES.out]
        have e1 : los (withK DF.name l ⟨nm, dt, .slice a3 n3 c3, [] ++ [(k, s)]⟩) = withF (los l) (nm, dt, [] ++ [(k, s)]) := withK_map (key := DF.name) (key' := fun x : LF => x.1) (fun _ => rfl) _ _
        rw [e1]
        have h9 := HPUT.out
        first | (rw [h9]; done) | (rw [h9]; rfl)
    | some ad =>
      have hnews : ∀ j u, (os.flatMap opC)[j]? = some u → w6.cell? (ad.add j) = some u := by
        intro j u hj
        rcases hrow with h | ⟨b', o', h, h2⟩
        · rw [h] at hj; cases hj
        · cases h
          rw [Addr.add_lit]
          exact h2 j u hj
      have hnl := flat_lenK opC_len os
      clear hrow
      go_wp2_with (at_builtin; refine wpList_append_own _ rfl _ _ 48 rfl w6.heap.size 69 i0 (.agg #[.int .i64 0, .string ⟨#[]⟩]) 2 24 Try.underlying48 hi hz0 hz1 hz2 rfl (by decide) _ 0 [] rfl hnil ad os.length oc (os.flatMap opC) rfl hnl hnews (op_one os) (by unfold maxLen; omega) (by omega) (Nat.le_refl _) ?_)
      intro v5 w5' hown5 hgrow5 _
      have hbq : Below w6.heap.size w6 w5' := (Below.refl w6.heap.size w6).grown hgrow5 (Nat.le_refl _) (fun j hj => by cases hj)
      obtain ⟨a5, n5, c5, rfl⟩ := own_slice hown5
      have hown5' : World.ownsRow w5' w6.heap.size 69 2 (.slice a5 n5 c5) os.length (os.flatMap opC) := by simpa using hown5
      clear hown5
      have hown5 := hown5'
      clear hown5'
      clear hgrow5 hnews hnl t2
      go_upto_region 19 with fail
      go_wp2_with (at_builtin; refine wpList_append_own _ rfl _ _ 48 rfl w6.heap.size 69 i0 (.agg #[.int .i64 0, .string ⟨#[]⟩]) 2 24 Try.underlying48 hi hz0 hz1 hz2 rfl (by decide) _ _ _ rfl (hown5.alloc _) ⟨w5'.heap.size, 0, none⟩ 1 1 [.int .i64 k, S s] rfl rfl (new_cells _ _ _ _) (op2_one k s) (by unfold maxLen; omega) (by omega) (by rw [World.size_alloc]; have := hbq.size; omega) ?_)
      intro v7 w7 hown7 hgrow7 _
      have hb7 : Below w6.heap.size w6 w7 := (hbq.alloc (hbq.size) (.cells #[.int .i64 k, S s] 69)).grown hgrow7 (by rw [World.size_alloc]; have := hbq.size; omega) (fun j hj => (hown5.lt j hj).1)
      have hB7 := below_chain hB6 hb7 hB6.size
      have hx7 := kept hb7 hx6
      have hy7 := kept hb7 hy6
      have hz7 := kept hb7 hz6
      obtain ⟨a3, n3, c3, rfl⟩ := own_slice hown7
      have c72 := heap_cell hz7 (j := 2) (v := .slice (some ad) os.length oc) rfl
      have r2 := is_some c72
      have g2 := heap_free hz7 2
      have hl6 := heap_lt hx6
      have hl6' := heap_lt hy6
      have hlf := heap_lt hz6
      have hl7 := heap_lt hx7
      have HOW7 := Lib.hid hown7
      clear hown7 hgrow7 hown5 y0 y1 y2
      go_upto_region 20 with fail
      obtain ⟨w9, hw9, hx9, hy9, hz9, hB9, hown9⟩ : ∃ w9, w9 = w7.setCell ⟨w5.heap.size, 2, none⟩ (.slice a3 n3 c3) ∧ w9.heap[w.heap.size]? = some (DCells (.slice (some ⟨bx, ox, none⟩) l.length c) off' fuse') ∧ w9.heap[w.heap.size + 1]? = some (DCells (.slice none 0 0) false 0) ∧ w9.heap[w5.heap.size]? = some (.cells #[S (nm), S (dt), .slice a3 n3 c3] 50 (0, 0)) ∧ Below w.heap.size w w9 ∧ World.ownsRow w9 w6.heap.size 69 2 (.slice a3 n3 c3) (os ++ [(k, s)]).length ((os ++ [(k, s)]).flatMap opC) :=
        ⟨_, rfl, (Below.heap_setCell _ _ _ _ (show w.heap.size ≠ w5.heap.size by omega)).trans hx7, (Below.heap_setCell _ _ _ _ (show w.heap.size + 1 ≠ w5.heap.size by omega)).trans hy7, by have h9 := heap_set_cell (o := 2) hz7 (.slice a3 n3 c3); simpa using h9, below_setC hB7 (by omega) 2 _, by have h9 := own_set (o := 2) (u := .slice a3 n3 c3) HOW7.out hlf; simpa using h9⟩
      rw [← hw9]
      have hlo : w.heap.size < w6.heap.size := hl6
      have hlo' : w.heap.size + 1 < w6.heap.size := hl6'
      have HOWO := Lib.hid hown9
      have hop6 : OpRow w9 (.slice a3 n3 c3) (os ++ [(k, s)]) := Row.of_ownsK opC_len hown9
      have hwz : w6.heap.size ≤ w9.heap.size := by have h9 := hb7.size; rw [hw9, size_setCell']; exact h9
      clear hw9 hx7 hy7 hz7 hB7 hb7 c72 r2 g2 HOW7 hx6 hy6 hz6 hB6 hl6 hl6' hlf hl7 hown9
      have hl6 := heap_lt hx9
      have hl6' := heap_lt hy9
      have CI := rwith_walk (.slice (some ⟨bx, ox, none⟩) l.length c) l ⟨nm, dt, .slice a3 n3 c3, os ++ [(k, s)]⟩ w9 (HR.out.below hB9) hop6 hcnt hup
      obtain ⟨y0, y1, y2⟩ := dcells hx9
      have t0 := heap_cell hz9 (j := 0) (v := S (nm)) rfl
      have t1 := heap_cell hz9 (j := 1) (v := S (dt)) rfl
      have t2 := heap_cell hz9 (j := 2) (v := .slice a3 n3 c3) rfl
      go_wp2_with fail
      refine CI.mono ?_
      rintro e w8 ⟨v8, rfl, hown8, hb8⟩
      have hB8 := below_chain hB9 hb8 hB9.size
      have hx8 := kept hb8 hx9
      have hy8 := kept hb8 hy9
      obtain ⟨va, vn, vc, rfl⟩ := own_slice hown8
      have HOWN := Lib.hid hown8
      have HOP6 := Lib.hid hop6
      have HB68 := Lib.hid hb8
      clear CI y0 y1 y2 t0 t1 t2 hx9 hy9 hz9 hown8 hop6 hb8
      obtain ⟨y0, y1, y2⟩ := dcells hx8
      have r0 := is_some y0
      have g0 := heap_free hx8 0
      obtain ⟨z0, z1, z2⟩ := dcells hy8
      have s0 := is_some z0
      have s1 := is_some z1
      have s2 := is_some z2
      have f0 := heap_free hy8 0
      have f1 := heap_free hy8 1
      have f2 := heap_free hy8 2
      have HB11 := Lib.hid (dstore_below (below_setC hB8 (Nat.le_refl _) 0 (.slice va vn vc)) (b := w.heap.size + 1) (by omega) (.slice va vn vc) (.bool off') (.int .i64 fuse'))
      go_wp2
      refine bodyPost_ret (v := .tuple #[DiskV (.slice va vn vc) off' fuse', .int .i64 0]) (by simp [results, Try.results31, go_sem, s0, s1, s2]) rfl ?_
      refine ⟨_, _, _, withK DF.name l ⟨nm, dt, .slice a3 n3 c3, os ++ [(k, s)]⟩, _, rfl, ⟨own_row (own_set (own_set (own_set (own_set HOWN.out hl6) hl6') hl6') hl6'), fun x hx => ?_⟩, ?_, HB11.out⟩
      · rcases withK_memR hx with rfl | hx
        · exact Row.of_ownsK opC_len (own_set (own_set (own_set (own_set (own_keep HOWO.out (fun g h7 h8 => HB68.out.block g h8)) hlo) hlo') hlo') hlo')
        · exact (HOPS.out x hx).below HB11.out
      · rw [HW.out, HRES.out]
        have e1 : los (withK DF.name l ⟨nm, dt, .slice a3 n3 c3, os ++ [(k, s)]⟩) = withF (los l) (nm, dt, os ++ [(k, s)]) := withK_map (key := DF.name) (key' := fun x : LF => x.1) (fun _ => rfl) _ _
        rw [e1]
        have h9 := HPUT.out
        first | (rw [h9]; done) | (rw [h9]; rfl)
  · have HPUT := Lib.hid (show putOps (fileOf (los l, false, fuse) n) k s = (nm, dt, os) by unfold putOps; rw [if_pos q6, hfo])
    have q6a : (s == []) = true := by rw [beq_iff_eq]; exact q6
    have q6b : (s != []) = false := by rw [bne_eq_false_iff_eq]; exact q6
    have q6c : s.isEmpty = true := by rw [q6]; rfl
    clear HQ q5 q6 hin hfo hfo0 hfnn
    have CP := rpower_walk (some ⟨bx, ox, none⟩) l.length c false fuse w3 hf1 hf2
    go_wp2_with fail
    refine CP.mono ?_
    rintro e w4 ⟨off', fuse', err, rfl, hpow, hb4⟩
    have hB4 := below_chain hB3 hb4 hB3.size
    have hx4 := kept hb4 hx3
    have hy4 := kept hb4 hy3
    clear hc1 hc2 hc3 CP y0 y1 y2 z0 z1 z2 s0 s1 s2 f0 f1 f2 hx3 hy3 hB3 hb4
    have hbl := heap_lt hx4
    obtain ⟨w5, hw5, hx5, hy5, hB5⟩ : ∃ w5, w5 = (((w4.setCell ⟨w.heap.size, 0, none⟩ (.slice (some ⟨bx, ox, none⟩) l.length c)).setCell ⟨w.heap.size, 1, none⟩ (.bool off')).setCell ⟨w.heap.size, 2, none⟩ (.int .i64 fuse')) ∧ w5.heap[w.heap.size]? = some (DCells (.slice (some ⟨bx, ox, none⟩) l.length c) off' fuse') ∧ w5.heap[w.heap.size + 1]? = some (DCells (.slice none 0 0) false 0) ∧ Below w.heap.size w w5 :=
      ⟨_, rfl, dstore hx4, (dstore_other (by omega) _ _ _).trans hy4, dstore_below hB4 (Nat.le_refl _) _ _ _⟩
    obtain ⟨y0, y1, y2⟩ := dcells hx4
    have s0 := is_some y0
    have s1 := is_some y1
    have s2 := is_some y2
    have f0 := heap_free hx4 0
    have f1 := heap_free hx4 1
    have f2 := heap_free hx4 2
    have HACT := Lib.hid (act_power (ls := los l) (fs := withF (los l) (putOps (fileOf (los l, false, fuse) n) k s)) hpow)
    clear hpow
    go_upto_region 11 with fail
    rw [← hw5]
    clear hw5 y0 y1 y2 s0 s1 s2 f0 f1 f2 hx4 hy4 hB4
    obtain ⟨y0, y1, y2⟩ := dcells hx5
    obtain ⟨z0, z1, z2⟩ := dcells hy5
    have s0 := is_some z0
    have s1 := is_some z1
    have s2 := is_some z2
    have f0 := heap_free hy5 0
    have f1 := heap_free hy5 1
    have f2 := heap_free hy5 2
    by_cases he : err = 0
    case neg =>
      have he' : (err != 0) = true := by rw [bne_iff_ne]; exact he
      have he2 : (err == 0) = false := by rw [beq_eq_false_iff_ne]; exact he
      go_wp2
      refine bodyPost_ret (v := .tuple #[DiskV (.slice (some ⟨bx, ox, none⟩) l.length c) off' fuse', .int .i64 err]) (by simp [results, Try.results31, go_sem, s0, s1, s2]) rfl ?_
      have hB6 := dstore_below hB5 (b := w.heap.size + 1) (by omega) (.slice (some ⟨bx, ox, none⟩) l.length c) (.bool off') (.int .i64 fuse')
      exact ⟨_, _, _, l, _, rfl, HR.out.below hB6, by rw [HW.out, HACT.out.2 he], hB6⟩
    subst he
    have HRES := Lib.hid (HACT.out.1 rfl)
    clear s0 s1 s2 f0 f1 f2 z0 z1 z2 HACT
    have hc1 := cell_below hB5 hp1
    have hc2 := cell_below hB5 hp2
    have hc3 := cell_below hB5 hp3
    have yq0 := fun X => cell_old y0 X
    have hq1 := fun X => cell_old hc1 X
    have hq2 := fun X => cell_old hc2 X
    have hq3 := fun X => cell_old hc3 X
    go_upto_region 20 with fail
    obtain ⟨w6, hw6, hx6, hy6, hz6, hB6⟩ : ∃ w6, w6 = w5.alloc (.cells #[S (nm), S (dt), .slice oa os.length oc] 50) ∧ w6.heap[w.heap.size]? = some (DCells (.slice (some ⟨bx, ox, none⟩) l.length c) off' fuse') ∧ w6.heap[w.heap.size + 1]? = some (DCells (.slice none 0 0) false 0) ∧ w6.heap[w5.heap.size]? = some (.cells #[S (nm), S (dt), .slice oa os.length oc] 50 (0, 0)) ∧ Below w.heap.size w w6 :=
      ⟨_, rfl, (Below.heap_alloc _ _ _ (heap_lt hx5)).trans hx5, (Below.heap_alloc _ _ _ (heap_lt hy5)).trans hy5, heap_alloc_new _ _, hB5.alloc hB5.size _⟩
    rw [← hw6]
    clear hw6 hx5 hy5 hB5 y0 y1 y2 hc1 hc2 hc3 yq0 hq1 hq2 hq3
    have hop6 : OpRow w6 (.slice oa os.length oc) os := hopk.below hB6
    have hl6 := heap_lt hx6
    have hl6' := heap_lt hy6
    have CI := rwith_walk (.slice (some ⟨bx, ox, none⟩) l.length c) l ⟨nm, dt, .slice oa os.length oc, os⟩ w6 (HR.out.below hB6) hop6 hcnt hup
    obtain ⟨y0, y1, y2⟩ := dcells hx6
    have t0 := heap_cell hz6 (j := 0) (v := S (nm)) rfl
    have t1 := heap_cell hz6 (j := 1) (v := S (dt)) rfl
    have t2 := heap_cell hz6 (j := 2) (v := .slice oa os.length oc) rfl
    go_wp2_with fail
    refine CI.mono ?_
    rintro e w8 ⟨v8, rfl, hown8, hb8⟩
    have hB8 := below_chain hB6 hb8 hB6.size
    have hx8 := kept hb8 hx6
    have hy8 := kept hb8 hy6
    obtain ⟨va, vn, vc, rfl⟩ := own_slice hown8
    have HOWN := Lib.hid hown8
    have HOP6 := Lib.hid hop6
    have HB68 := Lib.hid hb8
    clear CI y0 y1 y2 t0 t1 t2 hx6 hy6 hz6 hown8 hop6 hb8
    obtain ⟨y0, y1, y2⟩ := dcells hx8
    have r0 := is_some y0
    have g0 := heap_free hx8 0
    obtain ⟨z0, z1, z2⟩ := dcells hy8
    have s0 := is_some z0
    have s1 := is_some z1
    have s2 := is_some z2
    have f0 := heap_free hy8 0
    have f1 := heap_free hy8 1
    have f2 := heap_free hy8 2
    have HB11 := Lib.hid (dstore_below (below_setC hB8 (Nat.le_refl _) 0 (.slice va vn vc)) (b := w.heap.size + 1) (by omega) (.slice va vn vc) (.bool off') (.int .i64 fuse'))
    go_wp2
    refine bodyPost_ret (v := .tuple #[DiskV (.slice va vn vc) off' fuse', .int .i64 0]) (by simp [results, Try.results31, go_sem, s0, s1, s2]) rfl ?_
    refine ⟨_, _, _, withK DF.name l ⟨nm, dt, .slice oa os.length oc, os⟩, _, rfl, ⟨own_row (own_set (own_set (own_set (own_set HOWN.out hl6) hl6') hl6') hl6'), fun x hx => ?_⟩, ?_, HB11.out⟩
    · rcases withK_memR hx with rfl | hx
      · exact hopk.below HB11.out
      · exact (HOPS.out x hx).below HB11.out
    · rw [HW.out, HRES.out]
      have e1 : los (withK DF.name l ⟨nm, dt, .slice oa os.length oc, os⟩) = withF (los l) (nm, dt, os) := withK_map (key := DF.name) (key' := fun x : LF => x.1) (fun _ => rfl) _ _
      rw [e1]
      have h9 := HPUT.out
      first | (rw [h9]; done) | (rw [h9]; rfl)
end Go.Proofs.Ythjoaoakadaieaa
