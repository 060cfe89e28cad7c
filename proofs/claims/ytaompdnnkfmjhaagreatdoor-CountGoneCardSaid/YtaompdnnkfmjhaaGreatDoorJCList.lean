/- Boxes of four cells; rows that stay. Nodes, their parts and entries in memory. count's list: what a map counts, in order. cmp.Compare at texts. The program's look for a key among objects. Worlds in which one block alone turns. A reader of bytes in memory: its cells. -/
import Derived.Test.YtaompdnnkfmjhaaGreatDoorJRowG
import Derived.Test.YtaompdnnkfmjhaaGreatDoorJNodePlain
import Derived.Test.YtaompdnnkfmjhaaGreatDoorJCSpread
import Derived.Test.YtaompdnnkfmjhaaGreatDoorIter
import Derived.RangeFuncBox
import Derived.Test.YtaompdnnkfmjhaaGreatDoorJPlain
import Derived.Test.YtaompdnnkfmjhaaGreatDoorJKSet
import Derived.Maps.AppendAt
namespace Go.Proofs.YtaompdnnkfmjhaaGreatDoor
open Go.RowKit

theorem new_cells4 (w : World) (v u x z : Value) (e : Nat) : ∀ (j : Nat) y, [v, u, x, z][j]? = some y → (w.alloc (.cells #[v, u, x, z] e)).cell? ((⟨w.heap.size, 0, none⟩ : Addr).add j) = some y := by
  intro j y hj
  match j, hj with
  | 0, hj => simp at hj; subst hj; simp [Addr.add]
  | 1, hj => simp at hj; subst hj; simp [Addr.add]
  | 2, hj => simp at hj; subst hj; simp [Addr.add]
  | 3, hj => simp at hj; subst hj; simp [Addr.add]
theorem below_setT {B : Nat} {w w' : World} (h : Below B w w') {g : Nat} (hg : B ≤ g) (o : Nat) (u : Value) : Below B w (w'.setCell ⟨g, o, none⟩ u) := h.setCell (p := ⟨g, o, none⟩) hg u
theorem own_on {w w' : World} {base e k n : Nat} {v : Value} {xs : List Value} (h : w.ownsRow base e k v n xs) (hb : Below w.heap.size w w') : w'.ownsRow base e k v n xs :=
  h.kept (⟨hb.os, hb.tape, hb.output, hb.size, fun k hk _ => hb.block k hk⟩ : w.grownBy w' none) (by
    rcases h.2 with ⟨h, _⟩ | ⟨g, cap, cur, h, _⟩
    · rw [h]; exact .inl rfl
    · rw [h]; exact .inr (by simp [Value.ownBlock]))
theorem box4 {w : World} {g : Nat} {v u x z : Value} {t : TypeId} (h : w.heap[g]? = some (.cells #[v, u, x, z] t (0, 0))) :
    (w.cell? ⟨g, 0, none⟩ = some v ∧ w.cell? ⟨g, 1, none⟩ = some u ∧ w.cell? ⟨g, 2, none⟩ = some x ∧ w.cell? ⟨g, 3, none⟩ = some z) ∧
    (w.frozen? ⟨g, 0, none⟩ = false ∧ w.frozen? ⟨g, 1, none⟩ = false ∧ w.frozen? ⟨g, 2, none⟩ = false ∧ w.frozen? ⟨g, 3, none⟩ = false) ∧
    ((w.cell? ⟨g, 0, none⟩).isSome = true ∧ (w.cell? ⟨g, 1, none⟩).isSome = true ∧ (w.cell? ⟨g, 2, none⟩).isSome = true ∧ (w.cell? ⟨g, 3, none⟩).isSome = true) := by
  have h0 := heap_cell h (j := 0) (v := v) rfl
  have h1 := heap_cell h (j := 1) (v := u) rfl
  have h2 := heap_cell h (j := 2) (v := x) rfl
  have h3 := heap_cell h (j := 3) (v := z) rfl
  exact ⟨⟨h0, h1, h2, h3⟩, ⟨heap_free h 0, heap_free h 1, heap_free h 2, heap_free h 3⟩, ⟨is_some h0, is_some h1, is_some h2, is_some h3⟩⟩
end Go.Proofs.YtaompdnnkfmjhaaGreatDoor

namespace Go.Proofs.YtaompdnnkfmjhaaGreatDoor
open Go.RowKit

abbrev prtC (p : Prt) : List Value := [S p.1, .int .i64 p.2]
abbrev PrtV (p : Prt) : Value := .agg #[S p.1, .int .i64 p.2]
abbrev PrtRow := Row prtC
abbrev entC (e : Ent) : List Value := [S e.1, .int .i64 e.2.1, .bool e.2.2.1, S e.2.2.2]
abbrev EntV (e : Ent) : Value := .agg #[S e.1, .int .i64 e.2.1, .bool e.2.2.1, S e.2.2.2]
abbrev EntRow := Row entC
theorem infoPrt : (Tryz.prog.info? 78).map (fun i => (i.zero, i.size, i.bytes)) = some (some (.agg #[.string ⟨#[]⟩, .int .i64 0]), 2, 24) := by kernel_rfl
theorem infoEnt : (Tryz.prog.info? 82).map (fun i => (i.zero, i.size, i.bytes)) = some (some (.agg #[.string ⟨#[]⟩, .int .i64 0, .bool false, .string ⟨#[]⟩]), 4, 48) := by kernel_rfl
theorem prt_cells {w : World} {b o : Nat} {xs : List Prt} (h : ∀ j x, xs[j]? = some x → ∀ i u, (prtC x)[i]? = some u → w.cell? ⟨b, o + j * (prtC x).length + i, none⟩ = some u) {j : Nat} (hj : j < xs.length) :
    w.cell? ⟨b, o + j * 2, none⟩ = some (S xs[j].1) ∧ w.cell? ⟨b, o + j * 2 + 1, none⟩ = some (.int .i64 xs[j].2) :=
  ⟨h j xs[j] (by simp [hj]) 0 _ rfl, h j xs[j] (by simp [hj]) 1 _ rfl⟩
theorem ent_cells {w : World} {b o : Nat} {xs : List Ent} (h : ∀ j x, xs[j]? = some x → ∀ i u, (entC x)[i]? = some u → w.cell? ⟨b, o + j * (entC x).length + i, none⟩ = some u) {j : Nat} (hj : j < xs.length) :
    w.cell? ⟨b, o + j * 4, none⟩ = some (S xs[j].1) ∧ w.cell? ⟨b, o + j * 4 + 1, none⟩ = some (.int .i64 xs[j].2.1) ∧ w.cell? ⟨b, o + j * 4 + 2, none⟩ = some (.bool xs[j].2.2.1) ∧ w.cell? ⟨b, o + j * 4 + 3, none⟩ = some (S xs[j].2.2.2) :=
  ⟨h j xs[j] (by simp [hj]) 0 _ rfl, h j xs[j] (by simp [hj]) 1 _ rfl, h j xs[j] (by simp [hj]) 2 _ rfl, h j xs[j] (by simp [hj]) 3 _ rfl⟩
theorem prt2_one (x : Prt) : ∀ u ∈ prtC x, u.oneCell' = true := by
  intro u hu; simp at hu; rcases hu with rfl | rfl <;> rfl
theorem ent4_one (x : Ent) : ∀ u ∈ entC x, u.oneCell' = true := by
  intro u hu; simp at hu; rcases hu with rfl | rfl | rfl | rfl <;> rfl
/-- A node as a value, of the rows' values. -/
abbrev NodV (n : Nod) (vp ve : Value) : Value := .agg #[.int .i64 n.kind, S n.data, vp, ve]
structure NodRow (w : World) (n : Nod) (vp ve : Value) : Prop where
  parts : PrtRow w vp n.parts
  ents : EntRow w ve n.ents
theorem NodRow.below {w w' : World} {n : Nod} {vp ve : Value} (h : NodRow w n vp ve) (hb : Below w.heap.size w w') : NodRow w' n vp ve := ⟨h.parts.below hb, h.ents.below hb⟩
/-- A box of two cells. -/
theorem box2 {w : World} {g : Nat} {v u : Value} {t : TypeId} (h : w.heap[g]? = some (.cells #[v, u] t (0, 0))) :
    (w.cell? ⟨g, 0, none⟩ = some v ∧ w.cell? ⟨g, 1, none⟩ = some u) ∧ (w.frozen? ⟨g, 0, none⟩ = false ∧ w.frozen? ⟨g, 1, none⟩ = false) ∧ ((w.cell? ⟨g, 0, none⟩).isSome = true ∧ (w.cell? ⟨g, 1, none⟩).isSome = true) := by
  have h0 := heap_cell h (j := 0) (v := v) rfl
  have h1 := heap_cell h (j := 1) (v := u) rfl
  exact ⟨⟨h0, h1⟩, ⟨heap_free h 0, heap_free h 1⟩, ⟨is_some h0, is_some h1⟩⟩
theorem row_slice {α : Type} {f : α → List Value} {w : World} {v : Value} {l : List α} (h : Row f w v l) : ∃ a c, v = .slice a l.length c := by
  obtain ⟨a, c, h1, _⟩ := h
  exact ⟨a, c, h1⟩
end Go.Proofs.YtaompdnnkfmjhaaGreatDoor

namespace Go.Proofs.YtaompdnnkfmjhaaGreatDoor
open Go.RowKit

/-- What the loop has put out of the first keys. -/
def outC (c : List Cnt) (ks : List (List UInt8)) : List Cnt := (ks.filter (fun k => decide (0 < cntC c k))).map (fun k => (k, cntC c k))
theorem outC_step {c : List Cnt} {ks : List (List UInt8)} {q : Nat} (h : q < ks.length) : outC c (ks.take (q + 1)) = outC c (ks.take q) ++ (if 0 < cntC c ks[q] then [(ks[q], cntC c ks[q])] else []) := by
  unfold outC
  rw [List.take_succ_eq_append_getElem h, List.filter_append, List.map_append]
  by_cases h1 : 0 < cntC c ks[q]
  · rw [if_pos h1, List.filter_cons_of_pos (by simpa using h1)]; rfl
  · rw [if_neg h1, List.filter_cons_of_neg (by simpa using h1)]; rfl
theorem outC_len {c : List Cnt} {ks : List (List UInt8)} : (outC c ks).length ≤ ks.length := by
  unfold outC
  rw [List.length_map]
  exact List.length_filter_le _ _
theorem outC_all {c : List Cnt} (hc : FitCn c) {ks : List (List UInt8)} (hu : upS ks) (hm : ∀ k, cntC c k ≠ 0 → k ∈ ks) : outC c ks = c := by
  have hk : (outC c ks).map (·.1) = ks.filter (fun k => decide (0 < cntC c k)) := by
    unfold outC
    rw [List.map_map]
    conv => rhs; rw [← List.map_id (ks.filter (fun k => decide (0 < cntC c k)))]
    rfl
  have hf : FitCn (outC c ks) := by
    refine ⟨by rw [hk]; exact List.Pairwise.sublist List.filter_sublist hu, fun y hy => ?_⟩
    unfold outC at hy
    obtain ⟨k, h1, rfl⟩ := List.mem_map.1 hy
    have := (List.mem_filter.1 h1).2
    simp only [decide_eq_true_eq] at this
    show 1 ≤ cntC c k
    omega
  refine cnt_ext hf hc fun k => ?_
  by_cases h0 : cntC c k = 0
  · rw [h0]
    refine cntC_none fun h => ?_
    rw [hk] at h
    have := (List.mem_filter.1 h).2
    simp [h0] at this
  · have h1 := cntC_nonneg hc k
    have h2 : (k, cntC c k) ∈ outC c ks := by
      unfold outC
      exact List.mem_map.2 ⟨k, List.mem_filter.2 ⟨hm k h0, by simp; omega⟩, rfl⟩
    have h3 := h2
    rw [cnt_list hf] at h3
    obtain ⟨k', -, e⟩ := List.mem_map.1 h3
    injection e with e1 e2
    rw [← e2, e1]

set_option maxHeartbeats 4000000 in
set_option maxRecDepth 100000 in
theorem clist_walk (mb N : Nat) (c : List Cnt) (w : World) (hm : CMap w mb N c) (hN : N ≤ 1000000) :
    Calls Tryz.prog 32 #[.map (some mb)] w fun e w' => ∃ v, e = .returned v ∧ CntRow w' v c ∧ Below w.heap.size w w' := by
  obtain ⟨i0, hi, hz0, hz1, hz2⟩ := info_parts infoCnt
  have hmlt := hm.lt
  obtain ⟨F, ⟨D, h1, h2, h3, h4⟩, hF, hfit, hval⟩ := hm
  have HIM := Lib.hid (show IMap w mb N F from ⟨D, h1, h2, h3, h4⟩)
  have hsize : Maps.size D ≤ N := by
    obtain ⟨es, clock, hb, Ft, hs, hD⟩ := h1
    rw [hD]
    show ((es.toList.map (Go.WideElems.rg Tryz.prog 9 RI)).foldr DataW.insert []).length ≤ N
    rw [(Go.WideShapes.sorted_perm _).length_eq, List.length_map]
    exact hs
  have CK := callsIn_wide.1 (Tryz.maps_Keys_59 (some mb) w)
  have CS := callsIn_wide.1 (Tryz.slices_Sorted_keys_58_59 mb N D RI w h1 (by unfold maxLen; omega) (by omega))
  have HKEYS := Lib.hid (fun (ss : List (List UInt8)) (hp : ss.Perm (strKeys D)) => IMap.keys h1 h3 hp)
  have HF := Lib.hid hF
  have HFIT := Lib.hid hfit
  have HVAL := Lib.hid hval
  clear h1 h2 h3 h4 hF hfit hval hsize
  go_enter Tryz.func32, Tryz.ntmps32
  go_wp2_with fail
  refine CK.mono ?_
  rintro e w1 ⟨rfl, rfl⟩
  clear CK
  go_wp2_with fail
  refine CS.mono ?_
  rintro e w2 ⟨v2, ss, rfl, hp, hrow, -, hb2⟩
  obtain ⟨hku, hkm, hkl, hkx⟩ := HKEYS.out ss hp
  obtain ⟨ks, hks⟩ : ∃ ks, ss.mergeSort (fun x y => decide (x ≤ y)) = ks := ⟨_, rfl⟩
  have hlen : ss.length = ks.length := by rw [← hks]; exact (List.mergeSort_perm ss _).length_eq.symm
  rw [hks] at hku hkm hkx hrow
  have HOUT := Lib.hid (show outC c ks = c from outC_all HFIT.out hku (fun k h => by
    rw [hkm]
    have h9 := HF.out k
    cases hf : F k with
    | some v => rfl
    | none => rw [hf] at h9; exact absurd h9.symm h))
  rw [hlen] at hrow hkl
  have HB2 := Lib.hid (show Below w.heap.size w w2 from ((Below.refl w.heap.size w).alloc (Nat.le_refl _) _).trans (hb2.mono (by simp)))
  have HR2 := Lib.hid (show StrRow w2 v2 ks from StrRow.of_owns hrow)
  have HKX := Lib.hid hkx
  obtain ⟨ka, kc, rfl, -, -, hx2⟩ := HR2.out
  have HX2 := Lib.hid hx2
  clear CS hp hrow hb2 hku hkm hks hlen hx2 hkx HKEYS
  go_wp2
  go_loopw [3, 10] (fun ov iv wr => ∃ (q : Nat) (oa : Option Addr) (oc : Nat), q ≤ ks.length ∧ iv = .int .i64 q ∧ ov = .slice oa (outC c (ks.take q)).length oc ∧ Hid (wr.ownsRow w2.heap.size 41 2 (.slice oa (outC c (ks.take q)).length oc) (outC c (ks.take q)).length ((outC c (ks.take q)).flatMap cnC)) ∧ Hid (Below w2.heap.size w2 wr)) (fun _ iv _ => ks.length - (intOf iv).toNat)
  case atStart => exact ⟨0, none, 0, Nat.zero_le _, rfl, rfl, Lib.hid (World.ownsRow_nil _ _ _ _), Lib.hid (Below.refl _ _)⟩
  case round =>
    obtain ⟨q, oa, oc, hq, rfl, rfl, HOW, HB⟩ := hrel
    have HBW := Lib.hid (show Below w.heap.size w wr from below_chain HB2.out HB.out HB2.out.size)
    have hol := outC_len (c := c) (ks := ks.take q)
    rw [List.length_take] at hol
    by_cases h1 : q < ks.length
    · have h1' : (q : Int) < (ks.length : Int) := by omega
      have hx := HX2.out
      rcases hx with hx | ⟨g, go, rfl, hx⟩
      · exfalso; rw [hx] at h1; simp at h1
      have m1 := cell_below HB.out (hx q ks[q] (by simp [h1]))
      have hlk := IMap.look (HIM.out.kept HBW.out) (k := ks[q]) (HKX.out _ (List.getElem_mem h1))
      rw [HF.out] at hlk
      have HST := Lib.hid (outC_step (c := c) h1)
      clear hx
      generalize ks[q] = k at *
      have hnn := cntC_nonneg HFIT.out k
      generalize cntC c k = v at *
      by_cases hv : 0 < v
      · have HST2 := Lib.hid (show outC c (ks.take (q + 1)) = outC c (ks.take q) ++ [(k, v)] by rw [HST.out, if_pos hv])
        have HSZ := Lib.hid HB.out.size
        clear HST
        go_wp2_with (at_builtin; refine wpList_append_own _ rfl _ _ 26 rfl w2.heap.size 41 i0 (.agg #[.string ⟨#[]⟩, .int .i64 0]) 2 24 Tryz.underlying26 hi hz0 hz1 hz2 rfl (by decide) _ _ _ rfl (HOW.out.alloc _) ⟨wr.heap.size, 0, none⟩ 1 1 [S k, .int .i64 v] rfl rfl (new_cells _ _ _ _) (cn_one (k, v)) (by unfold maxLen; omega) (by omega) (by rw [World.size_alloc]; have := HSZ.out; omega) ?_)
        intro v' w3 hown' hgrow _
        obtain ⟨g', cap', rfl⟩ := ownsRow_succ hown'
        have HB3 := Lib.hid ((HB.out.alloc HB.out.size _).grown hgrow (by simp; have := HSZ.out; omega) (fun j hj => (HOW.out.lt j hj).1))
        have HO3 := Lib.hid hown'
        have HLN := Lib.hid (show (outC c (ks.take q)).length + 1 = (outC c (ks.take (q + 1))).length by rw [HST2.out, List.length_append]; rfl)
        have HFL := Lib.hid (show (outC c (ks.take (q + 1))).flatMap cnC = (outC c (ks.take q)).flatMap cnC ++ [S k, .int .i64 v] by rw [HST2.out, List.flatMap_append]; rfl)
        clear hown' hgrow hlk m1
        go_wp2
        go_roundw
        case rel => exact ⟨q + 1, some ⟨g', 0, none⟩, cap', by omega, by go_num, by rw [HLN.out], Lib.hid (by rw [HFL.out, ← HLN.out]; exact HO3.out), HB3⟩
        case measure => simp [intOf]; omega
      · have HST2 := Lib.hid (show outC c (ks.take (q + 1)) = outC c (ks.take q) by rw [HST.out, if_neg hv, List.append_nil])
        clear HST
        go_wp2
        go_roundw
        case rel => exact ⟨q + 1, oa, oc, by omega, by go_num, by rw [HST2.out], Lib.hid (by rw [HST2.out]; exact HOW.out), HB⟩
        case measure => simp [intOf]; omega
    · have h1' : ¬ (q : Int) < (ks.length : Int) := by omega
      have HRO := Lib.hid (show CntRow wr (.slice oa c.length oc) c by
        have h9 := Row.of_ownsK (f := cnC) (K := 2) cnC_len HOW.out
        rw [List.take_of_length_le (by omega), HOUT.out] at h9
        exact h9)
      rw [List.take_of_length_le (by omega), HOUT.out]
      go_wp2
      go_ret
      exact ⟨_, rfl, HRO.out, HBW.out⟩
end Go.Proofs.YtaompdnnkfmjhaaGreatDoor

namespace Go.Proofs.YtaompdnnkfmjhaaGreatDoor
open Go.RowKit

theorem isnan_walk (p : List UInt8) (w : World) : Calls Tryz.prog 125 #[S p] w fun e w' => e = .returned (.bool false) ∧ w' = w := by
  have hpp : (p == p) = true := by simp
  go_enter Tryz.func125, Tryz.ntmps125
  go_wp2
  go_ret
  exact ⟨rfl, rfl⟩

set_option maxHeartbeats 400000 in
theorem compare_walk (p n : List UInt8) (w : World) : Calls Tryz.prog 98 #[S p, S n] w fun e w' => e = .returned (.int .i64 (cmpS p n)) ∧ w' = w := by
  rcases three_ways p n with ⟨h1, _, h2, h3, h4⟩ | ⟨h1, rfl, h2, h3, h4⟩ | ⟨h1, _, h2, h3, h4⟩
  all_goals
    have H1 := Lib.hid h1
    rw [H1.out]
    clear h1
    go_enter Tryz.func98, Tryz.ntmps98
    go_wp2_with (go_at_call 125; refine (isnan_walk _ _).mono ?_; rintro e w1 ⟨rfl, rfl⟩)
    go_ret
    exact ⟨rfl, rfl⟩

end Go.Proofs.YtaompdnnkfmjhaaGreatDoor

namespace Go.Proofs.YtaompdnnkfmjhaaGreatDoor
open Go.RowKit

set_option maxHeartbeats 400000 in
theorem ato1_walk (x : Snp) (n : List UInt8) (w : World) : Calls Tryz.prog 97 #[SnpV x, S n] w fun e w' => e = .returned (.int .i64 (cmpS x.1 n)) ∧ Below w.heap.size w w' := by
  obtain ⟨p, q⟩ := x
  have C := fun w => compare_walk p n w
  simp only
  generalize cmpS p n = r at *
  go_enter Tryz.func97, Tryz.ntmps97
  go_wp2_with (go_at_call 98; refine (C _).mono ?_; rintro e w1 ⟨rfl, rfl⟩)
  go_ret
  exact ⟨rfl, (Below.refl _ _).alloc (Nat.le_refl _) _⟩

theorem namesO_at {l : List Snp} {h : Nat} (hh : h < l.length) : (l.map (·.1))[h]'(by simpa using hh) = l[h].1 := by simp

set_option maxHeartbeats 2000000 in
set_option maxRecDepth 100000 in
theorem bsearchO_walk (v fv : Value) (l : List Snp) (n : List UInt8) (w : World) (hfv : fv = .func (.func 97) #[] #[]) (hr : SnpRow w v l) (hcnt : l.length ≤ 1100000) (hup : upS (l.map (·.1))) :
    Calls Tryz.prog 96 #[v, S n, fv] w fun e w' => e = .returned (.tuple #[.int .i64 (posL (l.map (·.1)) n : Nat), .bool (decide (n ∈ l.map (·.1)))]) ∧ Below w.heap.size w w' := by
  subst hfv
  obtain ⟨a, c, rfl, hc, hm, hx⟩ := hr
  have HX := Lib.hid hx
  have HUP := Lib.hid hup
  clear hx hup
  go_enter Tryz.func96, Tryz.ntmps96
  go_wp2
  go_loopw [9, 10] (fun i j wr => ∃ a b : Nat, a ≤ b ∧ b ≤ l.length ∧ i = .int .i64 a ∧ j = .int .i64 b ∧ (∀ y ∈ (l.map (·.1)).take a, y < n) ∧ (∀ y ∈ (l.map (·.1)).drop b, ¬ y < n) ∧ Below w.heap.size w wr) (fun i j _ => (intOf j).toNat - (intOf i).toNat)
  case atStart => exact ⟨0, l.length, Nat.zero_le _, Nat.le_refl _, rfl, rfl, by simp, by rw [List.drop_eq_nil_of_le (by simp)]; simp, Below.refl _ _⟩
  case round =>
    obtain ⟨a0, b0, hab, hb, rfl, rfl, hlo, hhi, hB⟩ := hrel
    have HLO := Lib.hid hlo
    have HHI := Lib.hid hhi
    have HB := Lib.hid hB
    clear hlo hhi
    by_cases h1 : a0 < b0
    · obtain ⟨hk1, hk2⟩ := half h1
      have hkl : (a0 + b0) / 2 < l.length := by omega
      have hx := HX.out
      rcases hx with hx | ⟨b, o, rfl, hx⟩
      · exfalso; rw [hx] at hkl; simp at hkl
      obtain ⟨hx1, hx2⟩ := snp_cells hx hkl
      have hc1 := cell_below hB hx1
      have hc2 := cell_below hB hx2
      have HA := Lib.hid (fun h => up_before (n := n) (h := (a0 + b0) / 2) HUP.out (by simpa using hkl) h)
      have HD := Lib.hid (fun h => up_behind (n := n) (h := (a0 + b0) / 2) HUP.out (by simpa using hkl) h)
      rw [namesO_at hkl] at HA HD
      clear hx hx1 hx2 hB
      have CL := fun w => ato1_walk l[(a0 + b0) / 2] n w
      have h3 := three_ways l[(a0 + b0) / 2].1 n
      generalize l[(a0 + b0) / 2] = y at *
      obtain ⟨p, q⟩ := y
      simp only at CL h3 HA HD
      have h1' : (a0 : Int) < (b0 : Int) := by omega
      rcases h3 with ⟨hc, hlt, _⟩ | ⟨hc, rfl, _⟩ | ⟨hc, hlt, _⟩
      · have HF := Lib.hid (HA.out hlt)
        rw [hc] at CL
        clear hc hlt
        go_wp2_with (go_at_call 97; refine (CL _).mono ?_; rintro e w1 ⟨rfl, hb1⟩)
        go_roundw
        case rel => exact ⟨(a0 + b0) / 2 + 1, b0, by omega, by omega, by go_num, rfl, HF.out, HHI.out, below_chain HB.out hb1 HB.out.size⟩
        case measure => simp [intOf]; omega
      · have HF := Lib.hid (HD.out (List.lt_irrefl _))
        rw [hc] at CL
        clear hc
        go_wp2_with (go_at_call 97; refine (CL _).mono ?_; rintro e w1 ⟨rfl, hb1⟩)
        go_roundw
        case rel => exact ⟨a0, (a0 + b0) / 2, by omega, by omega, rfl, by go_num, HLO.out, HF.out, below_chain HB.out hb1 HB.out.size⟩
        case measure => simp [intOf]; omega
      · have HF := Lib.hid (HD.out (not_lt_of hlt))
        rw [hc] at CL
        clear hc hlt
        go_wp2_with (go_at_call 97; refine (CL _).mono ?_; rintro e w1 ⟨rfl, hb1⟩)
        go_roundw
        case rel => exact ⟨a0, (a0 + b0) / 2, by omega, by omega, rfl, by go_num, HLO.out, HF.out, below_chain HB.out hb1 HB.out.size⟩
        case measure => simp [intOf]; omega
    · obtain rfl : a0 = b0 := by omega
      have HP := Lib.hid (posL_at (n := n) (by simpa using hb) HLO.out (fun h => HHI.out _ (by rw [List.drop_eq_getElem_cons h]; simp)))
      by_cases h2 : a0 < l.length
      · have hx := HX.out
        rcases hx with hx | ⟨b, o, rfl, hx⟩
        · exfalso; rw [hx] at h2; simp at h2
        obtain ⟨hx1, hx2⟩ := snp_cells hx h2
        have hc1 := cell_below hB hx1
        have hc2 := cell_below hB hx2
        have HM := Lib.hid (mem_at HUP.out HP.out (by simpa using h2))
        rw [namesO_at h2] at HM
        clear hx hx1 hx2 hB
        have CL := fun w => ato1_walk l[a0] n w
        generalize l[a0] = y at *
        obtain ⟨p, q⟩ := y
        simp only at CL HM
        have h2' : (a0 : Int) < (l.length : Int) := by omega
        generalize cmpS p n = r at *
        go_wp2_with (go_at_call 97; refine (CL _).mono ?_; rintro e w1 ⟨rfl, hb1⟩)
        go_ret2
        exact ⟨by rw [HP.out, HM.out]; rfl, below_chain HB.out hb1 HB.out.size⟩
      · have h2' : ¬ (a0 : Int) < (l.length : Int) := by omega
        have HM := Lib.hid (mem_end HUP.out (HP.out.trans (by simp; omega)))
        go_wp2
        go_ret2
        exact ⟨by rw [HP.out, HM.out]; rfl, HB.out⟩

theorem pato_walk (v : Value) (l : List Snp) (n : List UInt8) (w : World) (hr : SnpRow w v l) (hcnt : l.length ≤ 1100000) (hup : upS (l.map (·.1))) :
    Calls Tryz.prog 79 #[v, S n] w fun e w' => e = .returned (.tuple #[.int .i64 (posL (l.map (·.1)) n : Nat), .bool (decide (n ∈ l.map (·.1)))]) ∧ Below w.heap.size w w' := by
  have C := bsearchO_walk v _ l n w rfl hr hcnt hup
  generalize posL (l.map (·.1)) n = pp at *
  generalize decide (n ∈ l.map (·.1)) = dd at *
  go_enter Tryz.func79, Tryz.ntmps79
  go_wp2_with (go_at_call 96; refine (C).mono ?_; rintro e w1 ⟨rfl, hb1⟩)
  go_ret2
  exact ⟨rfl, hb1⟩

set_option maxHeartbeats 1100000 in
set_option maxRecDepth 100000 in
theorem pget_walk (v : Value) (l : List Snp) (n : List UInt8) (w : World) (hr : SnpRow w v l) (hcnt : l.length ≤ 1100000) (hup : upS (namesR l)) :
    Calls Tryz.prog 55 #[v, S n] w fun e w' => e = .returned (.tuple #[S (rootOf (findR l n)), .bool (findR l n).isSome]) ∧ Below w.heap.size w w' := by
  have C := pato_walk v l n w hr hcnt hup
  obtain ⟨a, c, rfl, hc, hm, hx⟩ := hr
  by_cases hin : n ∈ namesR l
  · obtain ⟨hk, hf⟩ := findR_pos hup hin
    have HF := Lib.hid hf
    have hin2 : decide (n ∈ l.map (·.1)) = true := by simpa [namesR] using hin
    rw [hin2] at C
    have hpp : posL (l.map (·.1)) n = posL (namesR l) n := rfl
    rw [hpp] at C
    clear hf hin hin2 hpp hup
    rcases hx with hx | ⟨b, o, rfl, hx⟩
    · exfalso; rw [hx] at hk; simp at hk
    obtain ⟨hx1, hx2⟩ := snp_cells hx hk
    clear hx
    generalize posL (namesR l) n = k at *
    generalize l[k] = y at *
    obtain ⟨p, q⟩ := y
    have hk' : (k : Int) < (l.length : Int) := by omega
    rw [HF.out]
    go_enter Tryz.func55, Tryz.ntmps55
    go_wp2_with (go_at_call 79; refine C.mono ?_; rintro e w1 ⟨rfl, hb⟩; have hc1 := cell_below hb hx1; have hc2 := cell_below hb hx2)
    go_ret2
    exact ⟨rfl, hb⟩
  · have HF := Lib.hid (findR_none hin)
    have hin2 : decide (n ∈ l.map (·.1)) = false := by simpa [namesR] using hin
    rw [hin2] at C
    clear hin hin2 hx
    rw [HF.out]
    generalize posL (l.map (·.1)) n = k at *
    go_enter Tryz.func55, Tryz.ntmps55
    go_wp2_with (go_at_call 79; refine (C).mono ?_; rintro e w1 ⟨rfl, hb⟩)
    go_ret2
    exact ⟨rfl, hb⟩
end Go.Proofs.YtaompdnnkfmjhaaGreatDoor

namespace Go.Proofs.YtaompdnnkfmjhaaGreatDoor
open Go.RowKit

/-- Of the old blocks only g may have turned. -/
abbrev Gro (g : Nat) (w w' : World) : Prop := w.grownBy w' (some g)
theorem gro_of {g : Nat} {w w' : World} (h : Below w.heap.size w w') : Gro g w w' := ⟨h.os, h.tape, h.output, h.size, fun k hk _ => h.block k hk⟩
theorem gro_chain {g : Nat} {w w1 w2 : World} (h : Gro g w w1) (h2 : Below w1.heap.size w1 w2) : Gro g w w2 := World.grownBy.trans h (gro_of h2)
theorem gro_set {g : Nat} {w w1 : World} (h : Gro g w w1) (o : Nat) (v : Value) : Gro g w (w1.setCell ⟨g, o, none⟩ v) :=
  World.grownBy.trans h ⟨rfl, rfl, rfl, by simp, fun k hk hne => by
    have hne' : k ≠ g := fun e => hne (by rw [e])
    simp [World.setCell, Array.getElem?_modify, hne'.symm]⟩
theorem gro_below {g B : Nat} {w w' : World} (h : Gro g w w') (hg : B ≤ g) (hw : B ≤ w.heap.size) : Below B w w' :=
  (Below.refl B w).grown h hw (fun j hj => by cases hj; exact hg)
theorem gro_cell {g : Nat} {w w' : World} (h : Gro g w w') {b o : Nat} {v : Value} (hb : b ≠ g) (hc : w.cell? ⟨b, o, none⟩ = some v) : w'.cell? ⟨b, o, none⟩ = some v :=
  h.cell hc (fun e => hb (Option.some.inj e))
theorem gro_own {g : Nat} {w w' : World} {base e k n : Nat} {v : Value} {xs : List Value} (h : w.ownsRow base e k v n xs) (hb : Gro g w w') (hg : g < base) : w'.ownsRow base e k v n xs :=
  h.kept hb (by
    rcases h.2 with ⟨h, _⟩ | ⟨b, cap, cur, h, hge, _⟩
    · rw [h]; exact .inl rfl
    · rw [h]; refine .inr ?_; simp [Value.ownBlock]; omega)
theorem gro_row {α : Type} {f : α → List Value} {g : Nat} {w w' : World} {v : Value} {l : List α} (h : Row f w v l) (hb : Gro g w w') (hg : ∀ j, v.ownBlock = some j → j ≠ g) : Row f w' v l := by
  obtain ⟨a, c, rfl, hc, hm, hx⟩ := h
  refine ⟨a, c, rfl, hc, hm, ?_⟩
  rcases hx with hx | ⟨b, o, rfl, hx⟩
  · exact .inl hx
  · exact .inr ⟨b, o, rfl, fun j x hj i u hu => gro_cell hb (hg b (by simp [Value.ownBlock])) (hx j x hj i u hu)⟩
end Go.Proofs.YtaompdnnkfmjhaaGreatDoor

namespace Go.Proofs.YtaompdnnkfmjhaaGreatDoor
open Go.RowKit

/-- The reader at block g: what is left, and whether all was right so far. -/
def RdAt (w : World) (g : Nat) (s : List UInt8) (ok : Bool) : Prop :=
  ∃ ev, w.heap[g]? = some (.cells #[S s, ev] 131 (0, 0)) ∧ ((ok = true ∧ ev = .nilIface) ∨ (ok = false ∧ ∃ b, ev = .iface 133 (.pointer (some ⟨b, 0, none⟩))))
theorem RdAt.below {w w' : World} {g : Nat} {s : List UInt8} {ok : Bool} (h : RdAt w g s ok) (hb : Below w.heap.size w w') : RdAt w' g s ok := by
  obtain ⟨ev, h1, h2⟩ := h
  exact ⟨ev, (hb.block g (heap_lt h1)).trans h1, h2⟩
end Go.Proofs.YtaompdnnkfmjhaaGreatDoor
