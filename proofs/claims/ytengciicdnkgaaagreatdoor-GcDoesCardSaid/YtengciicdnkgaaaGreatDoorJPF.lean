/- slices.Sorted of slices.Values, at texts. The program's sets of keys: Fit, Has; slices.ContainsFunc at texts. Which collections can be, the program's. -/
import Derived.Test.YtengciicdnkgaaaGreatDoorRange
import Derived.Test.YtengciicdnkgaaaGreatDoorTurns
import Derived.Test.YtengciicdnkgaaaGreatDoorAny
import Derived.Test.YtengciicdnkgaaaGreatDoorJKids
import Derived.Maps.AppendAt
import Derived.RangeFuncBox
import Derived.Test.YtengciicdnkgaaaGreatDoorJKey
import Derived.Test.YtengciicdnkgaaaGreatDoorGcCmp
import Derived.Test.YtengciicdnkgaaaGreatDoorGcFitP
import Derived.Test.YtengciicdnkgaaaGreatDoorGcDefs
namespace Go.Proofs.YtengciicdnkgaaaGreatDoor
open Go.RowKit
attribute [local go_sem] Oper.semAt_some

def encV (x : List UInt8) : Array Value := #[S x]
/-- What a round must keep of the iterator's. -/
def KpV (n₀ : Nat) (W W' : World) : Prop := W.heap.size ≤ W'.heap.size ∧ ∀ k, k < n₀ → W'.heap[k]? = W.heap[k]?
theorem KpV.refl (n₀ : Nat) (W : World) : KpV n₀ W W := ⟨Nat.le_refl _, fun _ _ => rfl⟩
theorem KpV.trans {n₀ : Nat} {X Y Z : World} (h : KpV n₀ X Y) (k : KpV n₀ Y Z) : KpV n₀ X Z := ⟨Nat.le_trans h.1 k.1, fun i hi => (k.2 i hi).trans (h.2 i hi)⟩
theorem KpV.put {n₀ : Nat} (W : World) (l : Nat) (o : Obj) (h : n₀ ≤ l) : KpV n₀ W (W.putObj l o) :=
  ⟨by simp, fun k hk => World.putObj_heap_other (by omega)⟩
theorem KpV.allocs {n₀ : Nat} (W : World) (o o' : Obj) (h : n₀ ≤ W.heap.size) : KpV n₀ W ((W.alloc o).alloc o') :=
  ⟨by simp; omega, fun k hk => (Below.heap_alloc _ _ _ (by simp; omega)).trans (Below.heap_alloc _ _ _ (by omega))⟩
theorem KpV.row {n₀ : Nat} {W W' : World} (h : KpV n₀ W W') (hs : W.heap.size = n₀) {v : Value} {xs : List (List UInt8)} (hr : StrRow W v xs) : StrRow W' v xs := by
  obtain ⟨a, c, hv, hc, hm, hx⟩ := hr
  refine ⟨a, c, hv, hc, hm, hx.imp id fun ⟨b, o, ha, hx⟩ => ⟨b, o, ha, fun j x hj => ?_⟩⟩
  have h1 := hx j x hj
  exact (World.cell?_of_block (a := ⟨b, o + j, none⟩) (h.2 b (by have := lt_of_cell h1; omega))).trans h1

set_option maxHeartbeats 1100000 in
theorem vals_walk (v : Value) (w : World) (hv : ∃ a n c, v = .slice a n c) :
    Calls Tryz.prog 35 #[v] w fun e w' => e = .returned (.func (.func 57) #[] #[.pointer (some ⟨w.heap.size, 0, none⟩)]) ∧ w' = w.alloc (.cells #[v] 22) := by
  obtain ⟨a, n, c, rfl⟩ := hv
  go_enter Tryz.func35, Tryz.ntmps35
  go_wp2
  go_ret
  exact ⟨rfl, rfl⟩

set_option maxHeartbeats 2000000 in
set_option maxRecDepth 100000 in
theorem vals_iter (B : Nat) (v : Value) (l : List (List UInt8)) (wv w : World) (hB : Boxed wv B 22 v) (hr : StrRow wv v l) (hb : Below wv.heap.size wv w) (hl : l.length ≤ 1100000) :
    IterOf Tryz.prog 57 #[.pointer (some ⟨B, 0, none⟩)] (fun _ => False) (KpV wv.heap.size) encV l w := by
  intro ly J Jx W hKp hsz hJ hJx hY h0
  have hKv : KpV wv.heap.size wv W := ⟨Nat.le_trans hb.size hKp.1, fun k hk => (hKp.2 k hk).trans (hb.block k hk)⟩
  have hBW : Boxed W B 22 v := (hKv.2 B (heap_lt hB)).trans hB
  have hbc := hBW.cell
  have HKP := Lib.hid hKv
  obtain ⟨a, c, rfl, hc, hm, hx⟩ := hr
  have HX := Lib.hid hx
  clear hx hB hKp hKv
  refine (callsIn_wide (n := 3)).1 ?_
  refine callsIn_of_wp Tryz.func57 rfl trivial ?_ rfl
  simp only [Tryz.ntmps57, List.size_toArray, List.length_cons, List.length_nil, Nat.reduceAdd, Nat.reduceSub, Array.replicate_succ, Array.replicate_zero, List.push_toArray, List.append_toArray, List.nil_append, List.cons_append]
  gi_wp2
  gi_loopw [7] (fun i wr => ∃ k : Nat, k ≤ l.length ∧ i = .int .i64 k ∧ KpV wv.heap.size wv wr ∧ J (l.take k) wr) (fun i _ => l.length - (intOf i).toNat)
  case atStart => exact ⟨0, Nat.zero_le _, rfl, HKP.out, h0⟩
  case round =>
    obtain ⟨k, hk, rfl, hkp, hJp⟩ := hrel
    have HKR := Lib.hid hkp
    by_cases h1 : k < l.length
    · have h1' : (k : Int) < (l.length : Int) := by omega
      have hx := HX.out
      rcases hx with hx | ⟨b, o, rfl, hx⟩
      · exfalso; rw [hx] at h1; simp at h1
      have hc0 := str_cell hx h1
      have hc1 := (World.cell?_of_block (a := ⟨b, o + k, none⟩) (hkp.2 b (lt_of_cell hc0))).trans hc0
      have HTK := Lib.hid (List.take_succ_eq_append_getElem h1)
      have HPX := Lib.hid (show l.take k ++ [l[k]] <+: l by rw [← List.take_succ_eq_append_getElem h1]; exact List.take_prefix _ _)
      obtain ⟨fn, tmps, assign, body, hy, hR⟩ := hY (l.take k) l[k] wr hJp HPX.out
      clear hx hc0 hkp
      generalize l[k] = y at *
      simp only [encV] at hy
      gi_wp2
      refine hR.mono ?_
      rintro e w4 (⟨rfl, hJ4, hk4⟩ | ⟨rfl, hJx4⟩)
      · have HK4 := Lib.hid (HKR.out.trans hk4)
        clear hk4 hc1
        gi_wp2
        go_roundw
        case rel => exact ⟨k + 1, by omega, by go_num, HK4.out, by rw [HTK.out]; exact hJ4⟩
        case measure => simp [intOf]; omega
      · gi_wp2
        refine bodyPost_ret (results_none rfl _ _ _) rfl ?_
        exact ⟨⟨_, rfl⟩, .inr ⟨_, HPX.out, hJx4⟩⟩
    · have h1' : ¬ (k : Int) < (l.length : Int) := by omega
      have HJ := Lib.hid (show J l wr by have := hJp; rwa [List.take_of_length_le (by omega)] at this)
      clear hJp hkp
      gi_wp2
      go_end0
      exact ⟨⟨_, rfl⟩, .inl HJ.out⟩

/-- Behind an append to a slice in a box, and its store into that box. -/
theorem append_stepV {W w1 : World} {base L t e k m : Nat} {v v' : Value} {xs ys : List Value} {tmp : Obj} (hv : Boxed W L t v) (hrow : W.ownsRow base e 1 v k xs) (hL : L < base) (hb : base ≤ W.heap.size)
    (hown' : w1.ownsRow base e 1 v' m ys) (hgrow : (W.alloc tmp).grownBy w1 v.ownBlock) :
    Boxed w1 L t v ∧ Boxed (w1.setCell ⟨L, 0, none⟩ v') L t v' ∧ (w1.setCell ⟨L, 0, none⟩ v').ownsRow base e 1 v' m ys ∧ KeepsOthers W (w1.setCell ⟨L, 0, none⟩ v') ∧
      (∀ k, k < base → k ≠ L → (w1.setCell ⟨L, 0, none⟩ v').heap[k]? = W.heap[k]?) ∧ ∀ n, n ≤ L → Below n W (w1.setCell ⟨L, 0, none⟩ v') := by
  have hne : ∀ j, j < base → some j ≠ v.ownBlock := fun j hj e => by have := (hrow.lt j e.symm).1; omega
  have hv1 : Boxed w1 L t v := (hv.alloc tmp).kept hgrow (hne L hL)
  have hs := hgrow.size
  simp only [World.size_alloc] at hs
  refine ⟨hv1, hv1.set v', hown'.kept (grownBy_setCell' w1 L v') ?_, ?_, ?_, ?_⟩
  · rcases hown'.2 with ⟨rfl, _⟩ | ⟨g, cap, cur, rfl, hbg, _⟩
    · exact .inl rfl
    · exact .inr (by simp [Value.ownBlock]; omega)
  · refine ((KeepsOthers.alloc W tmp).trans (KeepsOthers.of_grownBy hgrow ?_)).trans (KeepsOthers.setCell _ _ _)
    intro j o e ho
    rcases hrow.2 with ⟨rfl, _⟩ | ⟨g, cap, cur, rfl, hbg, hgg, _⟩
    · simp [Value.ownBlock] at e
    · simp [Value.ownBlock] at e
      subst e
      rw [Below.heap_alloc _ _ _ (Array.getElem?_eq_some_iff.1 hgg).1, hgg] at ho
      cases ho; rfl
  · intro j hj hjL
    rw [Below.heap_setCell _ _ _ _ hjL, hgrow.block j (by simp; omega) (hne j hj), Below.heap_alloc _ _ _ (by omega)]
  · intro n hn
    exact (((Below.refl n W).alloc (by omega) tmp).grown hgrow (by simp; omega) (fun j e => by have := (hrow.lt j e).1; omega)).setCell (p := ⟨L, 0, none⟩) hn v'

/-- Between two rounds of AppendSeq. -/
def AppI (w : World) (l pre : List (List UInt8)) (W : World) : Prop :=
  (∃ v, Boxed W w.heap.size 22 v ∧ W.ownsRow (w.heap.size + 1) 9 1 v pre.length (pre.map S)) ∧ (Below w.heap.size w W ∧ w.heap.size + 1 ≤ W.heap.size) ∧ pre <+: l
theorem appI_bides (w : World) (l : List (List UInt8)) (N : Nat) (hN : w.heap.size + 1 ≤ N) : Bides (fun _ => False) N (AppI w l) := by
  rintro s A B row ⟨⟨v, h2, h3⟩, ⟨h4, h5⟩, h6⟩ hg hr
  exact ⟨⟨v, boxed_turn h2 hg hr (by simp), row_turn h3 hg hr (fun r e => e.elim)⟩, ⟨below_turn h4 hg hr (fun r e => e.elim) (by omega) (by omega), Nat.le_trans h5 hg.size⟩, h6⟩

set_option maxHeartbeats 2000000 in
set_option maxRecDepth 100000 in
theorem appseq_walk (B : Nat) (v : Value) (l : List (List UInt8)) (w : World) (hB : Boxed w B 22 v) (hr : StrRow w v l) (hl : l.length ≤ 1000000) :
    Calls Tryz.prog 73 #[.slice none 0 0, .func (.func 57) #[] #[.pointer (some ⟨B, 0, none⟩)]] w fun e w' => ∃ v', e = .returned v' ∧ w'.ownsRow w.heap.size 9 1 v' l.length (l.map S) ∧ Below w.heap.size w w' := by
  obtain ⟨i0, hi, hz0, hz1, hz2⟩ := info_parts infoStr
  have hBw := heap_lt hB
  refine (callsIn_wide (n := 3)).1 ?_
  refine callsIn_of_wp_marks Tryz.func73 rfl trivial ?_ rfl
  simp only [Tryz.ntmps73, List.size_toArray, List.length_cons, List.length_nil, Nat.reduceAdd, Nat.reduceSub, Array.replicate_succ, Array.replicate_zero, List.push_toArray, List.append_toArray, List.nil_append, List.cons_append]
  gi_wp2
  have b0 := Boxed.new w 22 (.slice none 0 0)
  have hB0 : Below w.heap.size w (w.alloc (.cells #[.slice none 0 0] 22)) := (Below.refl _ _).alloc (Nat.le_refl _) _
  have hS0 : (w.alloc (.cells #[.slice none 0 0] 22)).heap.size = w.heap.size + 1 := by simp
  generalize w.alloc (.cells #[.slice none 0 0] 22) = w0 at *
  refine range_law (gf := 57) (lb := #[.pointer (some ⟨B, 0, none⟩)]) rfl (enters_of Tryz.func57 (by kernel_rfl) rfl)
    (vals_iter B v l w w0 hB hr hB0 (by omega)) (fun r e => e.elim) (fun h k => KpV.trans h k) (fun W l o h => KpV.put W l o (by omega)) (fun o o' => KpV.allocs w0 o o' (by omega)) (fun x => rfl)
    (AppI w l) (fun _ _ _ => False) (appI_bides w l _ (by omega)) (fun c s A B row h _ _ => h) ⟨⟨_, b0, World.ownsRow_nil _ _ _ _⟩, ⟨hB0, by omega⟩, List.nil_prefix⟩
    (fun x a' _ => a' = { tmps := #[.slice none 0 0, .func (.func 57) #[] #[.pointer (some ⟨B, 0, none⟩)], .pointer (some ⟨w.heap.size, 0, none⟩), undef, .slice none 0 0, S x, .func (.func 57) #[] #[.pointer (some ⟨B, 0, none⟩)], S x, undef, undef, undef, undef, undef], defers := [] })
    (fun x a' _ _ _ _ hs _ _ => hs) ?assign ?body ?done ?stop
  case assign =>
    intro ly pre x W K hI hK
    simp only [encV]
    gi_wp2
    exact hK _ _ (KeepsFrom.refl _ _) (KpV.refl _ _) hI rfl
  case body =>
    rintro ly pre x a' W hly _ ⟨⟨v1, h1, h2⟩, ⟨h4, h5⟩, h6⟩ rfl hpx
    have c1 := h1.cell
    have f1 := h1.frozen
    have hpl : pre.length + 1 ≤ l.length := by have := hpx.length_le; simpa using this
    obtain ⟨a, c, rfl⟩ : ∃ a c, v1 = .slice a pre.length c := by
      rcases h2.2 with ⟨h, hn⟩ | ⟨g, cap, _, h, _⟩
      · exact ⟨none, 0, by rw [h, hn]⟩
      · exact ⟨_, _, h⟩
    gi_wp2_with (gi_at_builtin; refine wpListIn_append_own _ rfl _ _ 22 rfl (w.heap.size + 1) 9 i0 (.string ⟨#[]⟩) 1 16 Tryz.underlying22 hi hz0 hz1 hz2 rfl (by decide) _ _ _ rfl (h2.alloc _) ⟨W.heap.size, 0, none⟩ 1 1 [S x] rfl rfl (new_cell _ _ _) (by intro u hu; simp at hu; subst hu; rfl) (by unfold maxLen; omega) (by omega) (by simp; omega) ?_; intro v' w1 hown' hgrow _; obtain ⟨g', cap', rfl⟩ := ownsRow_succ hown'; obtain ⟨hv1, hv2, hr2, hk2, hb2, hB2⟩ := append_stepV h1 h2 (by omega) (by omega) hown' hgrow; have hc1 := hv1.cell; have hf1 := hv1.frozen)
    exact ⟨hk2.from _, ⟨hk2.size, fun k hk => hb2 k (by omega) (by omega)⟩, ⟨_, hv2, by simpa using hr2⟩, ⟨h4.trans (hB2 w.heap.size (by omega)), Nat.le_trans h5 hk2.size⟩, hpx⟩
  case done =>
    rintro D W hD ⟨⟨v1, h1, h2⟩, ⟨h4, h5⟩, h6⟩ hK
    have c1 := h1.cell
    obtain ⟨a, c, rfl⟩ : ∃ a c, v1 = .slice a l.length c := by
      rcases h2.2 with ⟨h, hn⟩ | ⟨g, cap, _, h, _⟩
      · exact ⟨none, 0, by rw [h, hn]⟩
      · exact ⟨_, _, h⟩
    gi_wp2
    refine ⟨by simp, .inl ⟨_, _, rfl, run_takeDeferred hK, ?_⟩⟩
    have hrow := ownsRow_putObj h2 (.deferred none) hK rfl
    have hbl := h4.grown (grownBy_putObj' _ D (.deferred none)) (by omega) (fun k e => by cases e; omega)
    exact ⟨.slice a l.length c, by simp [results, Tryz.results73, go_sem], _, rfl, own_mono (Nat.le_succ _) hrow, hbl⟩
  case stop =>
    rintro D c pre W hD hpre h
    exact h.elim

theorem collect_walk (B : Nat) (v : Value) (l : List (List UInt8)) (w : World) (hB : Boxed w B 22 v) (hr : StrRow w v l) (hl : l.length ≤ 1000000) :
    Calls Tryz.prog 56 #[.func (.func 57) #[] #[.pointer (some ⟨B, 0, none⟩)]] w fun e w' => ∃ v', e = .returned v' ∧ w'.ownsRow w.heap.size 9 1 v' l.length (l.map S) ∧ Below w.heap.size w w' := by
  have C := appseq_walk B v l w hB hr hl
  go_enter Tryz.func56, Tryz.ntmps56
  go_wp2_with fail
  refine C.mono ?_
  rintro e w1 ⟨v1, rfl, hown, hb⟩
  go_wp2
  go_ret
  exact ⟨_, rfl, hown, hb⟩
theorem sorted_walk (B : Nat) (v : Value) (l : List (List UInt8)) (w : World) (hB : Boxed w B 22 v) (hr : StrRow w v l) (hl : l.length ≤ 1000000) :
    Calls Tryz.prog 34 #[.func (.func 57) #[] #[.pointer (some ⟨B, 0, none⟩)]] w fun e w' => ∃ v', e = .returned v' ∧ w'.ownsRow w.heap.size 9 1 v' l.length ((l.mergeSort fun x y => decide (x ≤ y)).map S) ∧ Below w.heap.size w w' := by
  have C := collect_walk B v l w hB hr hl
  go_enter Tryz.func34, Tryz.ntmps34
  go_wp2_with fail
  refine C.mono ?_
  rintro e w1 ⟨v1, rfl, hown, hb⟩
  have C2 := ksort_walk w.heap.size v1 l w1 hown hb.size (by omega)
  clear C hown
  go_wp2_with fail
  refine C2.mono ?_
  rintro e w2 ⟨rfl, hown2, hb2⟩
  have hB2 := hb.trans hb2
  clear C2 hb hb2
  go_wp2
  go_ret
  exact ⟨_, rfl, hown2, hB2⟩
end Go.Proofs.YtengciicdnkgaaaGreatDoor

namespace Go.Proofs.YtengciicdnkgaaaGreatDoor
open Go.RowKit

set_option maxHeartbeats 4000000 in
set_option maxRecDepth 100000 in
theorem pkfit_walk (v : Value) (xs : List (List UInt8)) (w : World) (hr : StrRow w v xs) (hcnt : xs.length ≤ 1100000) :
    Calls Tryz.prog 36 #[v] w fun e w' => e = .returned (.bool (fit5 xs)) ∧ Below w.heap.size w w' := by
  obtain ⟨a, c, rfl, hc, hm, hx⟩ := hr
  have HX := Lib.hid hx
  have HBAD := Lib.hid (fun k h => fit5_bad (l := xs) (k := k) h)
  have HDWN := Lib.hid (fun j h => fit5_down (l := xs) (j := j) h)
  have HALLF := Lib.hid (fun h1 h2 => fit5_all (l := xs) h1 h2)
  generalize fit5 xs = res at *
  clear hx
  go_enter Tryz.func36, Tryz.ntmps36
  go_wp2
  go_loopw [7] (fun i wr => ∃ k : Nat, k ≤ xs.length ∧ i = .int .i64 k ∧ (∀ x ∈ xs.take k, x.length = 32) ∧ upN (xs.take k) = true ∧ Below w.heap.size w wr) (fun i _ => xs.length - (intOf i).toNat)
  case atStart => exact ⟨0, Nat.zero_le _, rfl, by simp, rfl, Below.refl _ _⟩
  case round =>
    obtain ⟨k, hk, rfl, ha, hu, hB⟩ := hrel
    have HA := Lib.hid ha
    have HU := Lib.hid hu
    clear ha hu
    by_cases h1 : k < xs.length
    · have h1' : (k : Int) < (xs.length : Int) := by omega
      have hx := HX.out
      rcases hx with hx | ⟨b, o, rfl, hx⟩
      · exfalso; rw [hx] at h1; simp at h1
      have hc1 := cell_below hB (str_cell hx h1)
      have HB1 := Lib.hid (HBAD.out k h1)
      have HA1 := Lib.hid (all32_step h1 HA.out)
      by_cases hz : k = 0
      · subst hz
        have HU1 := Lib.hid (fit5_one xs)
        simp only [Nat.add_zero] at hc1
        have hz0 : ((0 : Nat) : Int) = 0 := rfl
        clear hx
        generalize xs[0] = y at *
        by_cases hl : y.length = 32
        · have hl' : ((y.length : Int) != 32) = false := by rw [bne_eq_false_iff_eq]; omega
          have HS := Lib.hid (HA1.out hl)
          clear hl
          go_wp2
          go_roundw
          case rel => exact ⟨1, by omega, by go_num, HS.out, HU1.out, hB⟩
          case measure => simp [intOf]; omega
        · have hl' : ((y.length : Int) != 32) = true := by rw [bne_iff_ne]; omega
          have HR := Lib.hid (HB1.out hl)
          clear hl
          go_wp2
          go_ret
          exact ⟨by rw [HR.out]; rfl, hB⟩
      · obtain ⟨j, rfl⟩ : ∃ j, k = j + 1 := ⟨k - 1, by omega⟩
        have hj : j < xs.length := by omega
        have hc2 := cell_below hB (str_cell hx hj)
        have HD := Lib.hid (HDWN.out j h1)
        have HUS := Lib.hid (upN_step h1)
        have hwr : IntKind.i64.wrap (j : Int) = (j : Int) := by rw [IntKind.wrap_i64]; omega
        have hpos : (0 : Int) < ((j + 1 : Nat) : Int) := by omega
        have hj' : (j : Int) < (xs.length : Int) := by omega
        clear hx hz
        generalize xs[j + 1] = y at *
        generalize xs[j] = y0 at *
        by_cases hl : y.length = 32
        · have hl' : ((y.length : Int) != 32) = false := by rw [bne_eq_false_iff_eq]; omega
          have HS := Lib.hid (HA1.out hl)
          clear hl
          have hcase : (y0 < y ∧ Op.bytesLess y0 y = true) ∨ (¬ y0 < y ∧ Op.bytesLess y0 y = false) := by
            rw [bytesLess_eq]
            by_cases h : y0 < y
            · exact .inl ⟨h, by simpa using h⟩
            · exact .inr ⟨h, by simpa using h⟩
          rcases hcase with ⟨hlt, hbl⟩ | ⟨hlt, hbl⟩
          · have HU2 := Lib.hid (show upN (xs.take (j + 2)) = true by rw [HUS.out, HU.out]; simp [hlt])
            clear hlt
            go_wp2
            go_roundw
            case rel => exact ⟨j + 2, by omega, by go_num, HS.out, HU2.out, hB⟩
            case measure => simp [intOf]; omega
          · have HR := Lib.hid (HD.out hlt)
            clear hlt
            go_wp2
            go_ret
            exact ⟨by rw [HR.out]; rfl, hB⟩
        · have hl' : ((y.length : Int) != 32) = true := by rw [bne_iff_ne]; omega
          have HR := Lib.hid (HB1.out hl)
          clear hl
          go_wp2
          go_ret
          exact ⟨by rw [HR.out]; rfl, hB⟩
    · have h1' : ¬ (k : Int) < (xs.length : Int) := by omega
      have HR := Lib.hid (HALLF.out (by have e := HA.out; rwa [List.take_of_length_le (by omega)] at e) (by have e := HU.out; rwa [List.take_of_length_le (by omega)] at e))
      go_wp2
      go_ret
      exact ⟨by rw [HR.out]; rfl, hB⟩


set_option maxHeartbeats 1000000 in
theorem phas_walk (v : Value) (l : List (List UInt8)) (k : List UInt8) (w : World) (hr : StrRow w v l) (hcnt : l.length ≤ 1100000) (hup : upS l) :
    Calls Tryz.prog 39 #[v, S k] w fun e w' => e = .returned (.bool (decide (k ∈ l))) ∧ Below w.heap.size w w' := by
  have C := bsStr_walk v l k w hr hcnt hup
  generalize posL l k = p at *
  generalize decide (k ∈ l) = d at *
  go_enter Tryz.func39, Tryz.ntmps39
  go_wp2_with fail
  refine C.mono ?_
  rintro e w1 ⟨rfl, hb1⟩
  go_wp2
  go_ret
  exact ⟨rfl, hb1⟩

set_option maxHeartbeats 1100000 in
theorem hasStr_walk (g0 : Nat) (caps : Array Value) (p : List UInt8 → Bool) (v : Value) (l : List (List UInt8)) (w : World) (hr : StrRow w v l) (hcnt : l.length ≤ 1100000)
    (hen : ∀ args w, (callFunc g0 args).run Tryz.prog w = .ok (.enter g0 args) w)
    (hp : ∀ x w', Below w.heap.size w w' → Calls Tryz.prog g0 (#[S x] ++ caps) w' fun e w'' => e = .returned (.bool (p x)) ∧ Below w'.heap.size w' w'') :
    Calls Tryz.prog 37 #[v, .func (.func g0) #[] caps] w fun e w' => e = .returned (.bool (l.any p)) ∧ Below w.heap.size w w' := by
  obtain ⟨a, c, rfl, hc, hm, hx⟩ := hr
  have CI := idxStr_walk g0 caps p a c l w ⟨a, c, rfl, hc, hm, hx⟩ hcnt hen hp
  clear hx hp hen
  rcases idxP_cases p l with ⟨e1, hall⟩ | ⟨k0, hk0, e1, hall, hpk⟩
  · have HF := Lib.hid (show l.any p = false by rw [List.any_eq_false]; intro x hx; rw [hall x hx]; simp)
    rw [e1] at CI
    clear hall e1
    go_enter Tryz.func37, Tryz.ntmps37
    go_wp2_with (go_at_call 58; refine (CI).mono ?_; rintro e w1 ⟨rfl, hb1⟩)
    go_ret
    exact ⟨by rw [HF.out]; rfl, hb1⟩
  · have HF := Lib.hid (show l.any p = true by rw [List.any_eq_true]; exact ⟨_, List.getElem_mem hk0, hpk⟩)
    rw [e1] at CI
    have hk : (0 : Int) ≤ (k0 : Int) := by omega
    clear hall e1 hpk
    go_enter Tryz.func37, Tryz.ntmps37
    go_wp2_with (go_at_call 58; refine (CI).mono ?_; rintro e w1 ⟨rfl, hb1⟩)
    go_ret
    exact ⟨by rw [HF.out]; rfl, hb1⟩
end Go.Proofs.YtengciicdnkgaaaGreatDoor

namespace Go.Proofs.YtengciicdnkgaaaGreatDoor
open Go.RowKit

set_option maxHeartbeats 1000000 in
theorem pfitc_walk (b : Nat) (on : Bool) (qv mv : Value) (m : List (List UInt8)) (k : List UInt8) (w : World) (hg : w.heap[b]? = some (GCells on qv mv)) (hm : StrRow w mv m) (hml : m.length ≤ 1000) (hup : upS m) :
    Calls Tryz.prog 38 #[S k, .pointer (some ⟨b, 0, none⟩)] w fun e w' => e = .returned (.bool (!decide (k ∈ m))) ∧ Below w.heap.size w w' := by
  have C := phas_walk mv m k w hm (by omega) hup
  obtain ⟨y0, y1, y2⟩ := gcells hg
  obtain ⟨ma, mc, rfl, -⟩ := hm
  generalize decide (k ∈ m) = d at *
  clear hup hg
  go_enter Tryz.func38, Tryz.ntmps38
  go_wp2_with fail
  refine C.mono ?_
  rintro e w1 ⟨rfl, hb1⟩
  clear C y0 y1 y2
  go_wp2
  go_ret
  exact ⟨rfl, hb1⟩

set_option maxHeartbeats 8000000 in
set_option maxRecDepth 100000 in
theorem pfit20_walk (on : Bool) (qv mv : Value) (q m : List (List UInt8)) (w : World) (hq : StrRow w qv q) (hm : StrRow w mv m) (hql : q.length ≤ 1000) (hml : m.length ≤ 1000) :
    Calls Tryz.prog 18 #[GcV on qv mv] w fun e w' => e = .returned (.bool (fitG on q m)) ∧ Below w.heap.size w w' := by
  have HQ := Lib.hid hq
  have HM := Lib.hid hm
  obtain ⟨qa, qc, rfl, _⟩ := hq
  obtain ⟨ma, mc, rfl, _⟩ := hm
  have HNO := Lib.hid (fun (h : ¬ (fit5 m = true ∧ (on = true ∨ (q = [] ∧ m = [])) ∧ (∀ x ∈ q, x ∈ m) ∧ q.Nodup)) => show fitG on q m = false from by
    cases e : fitG on q m with
    | false => rfl
    | true => exact absurd (fitG_iff.1 e) h)
  have HIFF := Lib.hid (fitG_iff (on := on) (q := q) (m := m))
  obtain ⟨res, hres⟩ : ∃ res, fitG on q m = res := ⟨_, rfl⟩
  rw [hres] at HNO HIFF ⊢
  clear hres
  obtain ⟨w1, hw1, hB1, hg1⟩ : ∃ w1, w1 = w.alloc (GCells on (.slice qa q.length qc) (.slice ma m.length mc)) ∧ Below w.heap.size w w1 ∧ w1.heap[w.heap.size]? = some (GCells on (.slice qa q.length qc) (.slice ma m.length mc)) :=
    ⟨_, rfl, (Below.refl _ _).alloc (Nat.le_refl _) _, heap_alloc_new w _⟩
  have CV := vals_walk (.slice qa q.length qc) w1 ⟨_, _, _, rfl⟩
  have hB2 := hB1.alloc hB1.size (.cells #[.slice qa q.length qc] 22)
  have hbx := Boxed.new w1 22 (.slice qa q.length qc)
  have CS := sorted_walk w1.heap.size (.slice qa q.length qc) q _ hbx (HQ.out.below hB2) (by omega)
  obtain ⟨y0, y1, y2⟩ := gcells hg1
  have HSC := Lib.hid (sorted_compact (l := q))
  have HSL := Lib.hid (show (q.mergeSort fun x y => decide (x ≤ y)).length = q.length from List.length_mergeSort _)
  generalize (q.mergeSort fun x y => decide (x ≤ y)) = srt at *
  have hg2 : (w1.alloc (.cells #[.slice qa q.length qc] 22)).heap[w.heap.size]? = _ := heap_old hg1
  generalize hW2 : w1.alloc (.cells #[.slice qa q.length qc] 22) = W2 at *
  go_enter Tryz.func18, Tryz.ntmps18
  go_upto_region 1 with fail
  rw [← hw1]
  clear hw1
  go_wp2_with fail
  refine CV.mono ?_
  rintro e w2 ⟨rfl, rfl⟩
  clear CV
  go_wp2_with fail
  refine CS.mono ?_
  rintro e w3 ⟨v3, rfl, hown3, hb3⟩
  have hB3 := hB2.trans (hb3.mono hB2.size)
  have hg3 := keptG hb3 hg2
  have CC := kcompact_walk w2.heap.size v3 srt w3 (by rw [HSL.out]; exact hown3) (by rw [HSL.out]; omega)
  clear CS hown3 y0 y1 y2
  go_wp2_with fail
  refine CC.mono ?_
  rintro e w4 ⟨v4, rfl, hown4, hb4⟩
  have hb4' := hb3.trans hb4
  have hg4 := keptG hb4' hg2
  have hB4 := hB2.trans (hb4'.mono hB2.size)
  obtain ⟨a4, c4, h4, -⟩ := StrRow.of_owns hown4
  subst h4
  have CF := pkfit_walk (.slice ma m.length mc) m w4 (HM.out.below hB4) (by omega)
  obtain ⟨y0, y1, y2⟩ := gcells hg4
  generalize (Lib.compact srt).length = cl at *
  have HG4 := Lib.hid hg4
  have HB4 := Lib.hid hB4
  obtain ⟨f, hf⟩ : ∃ f, fit5 m = f := ⟨_, rfl⟩
  have HF := Lib.hid hf
  rw [hf] at CF
  clear CC hown4 hb3 hb4 hb4' hB3 hg3 hg4 hB4 hf hB2 hg2 hbx hW2
  cases f with
  | false =>
    go_wp2_with fail
    refine CF.mono ?_
    rintro e w5 ⟨rfl, hb5⟩
    have HB5 := Lib.hid (HB4.out.trans (hb5.mono HB4.out.size))
    clear CF hb5 y0 y1 y2
    go_wp2
    go_ret
    exact ⟨by rw [HNO.out (fun h => by rw [HF.out] at h; exact absurd h.1 (by simp))]; rfl, HB5.out⟩
  | true =>
  go_wp2_with fail
  refine CF.mono ?_
  rintro e w5 ⟨rfl, hb5⟩
  have HB5 := Lib.hid (HB4.out.trans (hb5.mono HB4.out.size))
  have HG5 := Lib.hid (keptG hb5 HG4.out)
  clear CF hb5 y0 y1 y2
  obtain ⟨y0, y1, y2⟩ := gcells HG5.out
  by_cases hcl : cl = q.length
  case neg =>
    have hne : ((cl : Int) != (q.length : Int)) = true := by rw [bne_iff_ne]; omega
    have HND := Lib.hid (fun h => hcl (HSC.out.2 h))
    clear hcl
    go_wp2
    go_ret
    exact ⟨by rw [HNO.out (fun h => HND.out h.2.2.2)]; rfl, HB5.out⟩
  have hne : ((cl : Int) != (q.length : Int)) = false := by rw [bne_eq_false_iff_eq]; omega
  have HND := Lib.hid (HSC.out.1 hcl)
  have HUP := Lib.hid (fit5_upP HF.out)
  clear hcl
  have CH := hasStr_walk 38 #[.pointer (some ⟨w.heap.size, 0, none⟩)] (fun k => !decide (k ∈ m)) (.slice qa q.length qc) q w5 (HQ.out.below HB5.out) (by omega) (enters_of Tryz.func38 (by kernel_rfl) rfl)
    (fun x w'' hb'' => pfitc_walk w.heap.size on (.slice qa q.length qc) (.slice ma m.length mc) m x w'' (keptG hb'' HG5.out) ((HM.out.below HB5.out).below hb'') hml HUP.out)
  obtain ⟨an, han⟩ : ∃ an, q.any (fun k => !decide (k ∈ m)) = an := ⟨_, rfl⟩
  rw [han] at CH
  have HAN := Lib.hid (show an = false ↔ ∀ x ∈ q, x ∈ m from by
    rw [← han, List.any_eq_false]
    simp)
  clear han
  have hcases : (on = false ∧ 0 < m.length) ∨ (on = false ∧ m = []) ∨ on = true := by
    cases on with
    | true => exact .inr (.inr rfl)
    | false => by_cases h : 0 < m.length
               · exact .inl ⟨rfl, h⟩
               · exact .inr (.inl ⟨rfl, List.length_eq_zero_iff.1 (by omega)⟩)
  rcases hcases with ⟨rfl, g1⟩ | ⟨rfl, g1⟩ | rfl
  · have g1' : (0 : Int) < (m.length : Int) := by omega
    have HR := Lib.hid (show res = false from HNO.out (fun h => by rcases h.2.1 with h | ⟨_, h8⟩; exact absurd h (by simp); rw [h8] at g1; simp at g1))
    clear g1 CH
    go_wp2
    go_ret
    exact ⟨by rw [HR.out]; rfl, HB5.out⟩
  · have HR := Lib.hid (show res = !an from by
      have h1 := HIFF.out
      have h2 := HAN.out
      cases an with
      | false =>
        have hq0 : q = [] := List.eq_nil_iff_forall_not_mem.2 (fun x hx => by have := h2.1 rfl x hx; rw [g1] at this; cases this)
        exact h1.2 ⟨HF.out, .inr ⟨hq0, g1⟩, h2.1 rfl, HND.out⟩
      | true => exact HNO.out (fun h => by have := h2.2 h.2.2.1; cases this))
    subst g1
    simp only [List.length_nil] at y2
    go_wp2_with fail
    refine CH.mono ?_
    rintro e w6 ⟨rfl, hb6⟩
    have hB6 := HB5.out.trans (hb6.mono HB5.out.size)
    clear CH y0 y1 y2 hb6
    go_wp2
    go_ret
    exact ⟨by rw [HR.out]; rfl, hB6⟩
  · have HR := Lib.hid (show res = !an from by
      have h1 := HIFF.out
      have h2 := HAN.out
      cases an with
      | false => exact h1.2 ⟨HF.out, .inl rfl, h2.1 rfl, HND.out⟩
      | true => exact HNO.out (fun h => by have := h2.2 h.2.2.1; cases this))
    go_wp2_with fail
    refine CH.mono ?_
    rintro e w6 ⟨rfl, hb6⟩
    have hB6 := HB5.out.trans (hb6.mono HB5.out.size)
    clear CH y0 y1 y2 hb6
    go_wp2
    go_ret
    exact ⟨by rw [HR.out]; rfl, hB6⟩
end Go.Proofs.YtengciicdnkgaaaGreatDoor
