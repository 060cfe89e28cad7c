/- The reference's Same and Add of objects. Chapter 12's example, where the empty tree's objects are those of any tree. DagBuilds: a tree's objects and its key are the document's. A statement's arguments, opened: slices of elements of some cells. A statement's arguments, opened: trees' items. -/
import Derived.Test.YtbmdoekfbkpaeaaGreatDoorJRKey11
import Derived.Test.YtbmdoekfbkpaeaaGreatDoorJWithP
import Derived.Deep.Cut
import Derived.Deep.RegionWith
import Derived.Sort.Walk0
import Derived.Test.YtbmdoekfbkpaeaaGreatDoorJCollM
import Derived.Test.YtbmdoekfbkpaeaaGreatDoorFew12
import Derived.Test.YtbmdoekfbkpaeaaGreatDoorJNodePlain
import Derived.SliceStrings
import Derived.OpenShut
import Derived.ProofKit
import Derived.ChangeOld
import Derived.ChangeMaps5
import Derived.Deep.Slices
import Derived.Lib.SmallJoins
import Derived.Test.YtbmdoekfbkpaeaaGreatDoorJItB
namespace Go.Proofs.YtbmdoekfbkpaeaaGreatDoor
open Go.RowKit

theorem snps_ne {xs ys : List Snp} {k : Nat} (h1 : k < xs.length) (h2 : k < ys.length) (h : xs[k] ≠ ys[k]) : (xs == ys) = false := by
  rw [beq_eq_false_iff_ne]
  rintro rfl
  exact h rfl
theorem snps_eq {xs ys : List Snp} (hl : xs.length = ys.length) (h : xs.take xs.length = ys.take xs.length) : (xs == ys) = true := by
  rw [beq_iff_eq]
  rw [List.take_of_length_le (Nat.le_refl _), List.take_of_length_le (by omega)] at h
  exact h

set_option maxHeartbeats 1100000 in
set_option maxRecDepth 100000 in
theorem r12same_walk (v v2 : Value) (xs ys : List Snp) (w : World) (hx : SnpRow w v xs) (hy : SnpRow w v2 ys) (hcl : xs.length ≤ 1100000) :
    Calls Tryz.prog 11 #[v, v2] w fun e w' => e = .returned (.bool (xs == ys)) ∧ Below w.heap.size w w' := by
  obtain ⟨a, c, rfl, hc, hm1, hx⟩ := hx
  obtain ⟨a2, c2, rfl, hc2, hm2, hy⟩ := hy
  have HX := Lib.hid hx
  have HY := Lib.hid hy
  clear hx hy
  by_cases hl : xs.length = ys.length
  · have HL := Lib.hid hl
    have hne : ((xs.length : Int) != (ys.length : Int)) = false := by rw [bne_eq_false_iff_eq]; omega
    have hle1 : xs.length ≤ ys.length := by omega
    clear hl
    go_enter Tryz.func11, Tryz.ntmps11
    go_wp2
    go_loopw [5] (fun i wr => ∃ k : Nat, k ≤ xs.length ∧ i = .int .i64 k ∧ xs.take k = ys.take k ∧ Below w.heap.size w wr) (fun i _ => xs.length - (intOf i).toNat)
    case atStart => exact ⟨0, Nat.zero_le _, rfl, rfl, Below.refl _ _⟩
    case round =>
      obtain ⟨k, hk, rfl, ht, hB⟩ := hrel
      have HT := Lib.hid ht
      have HB := Lib.hid hB
      clear ht
      by_cases h1 : k < xs.length
      · have h2 : k < ys.length := by omega
        have hx := HX.out
        rcases hx with hx | ⟨b, o, rfl, hx⟩
        · exfalso; rw [hx] at h1; simp at h1
        obtain ⟨hx1, hx2⟩ := snp_cells hx h1
        have hcx1 := cell_below hB hx1
        have hcx2 := cell_below hB hx2
        have hy := HY.out
        rcases hy with hy | ⟨b2, o2, rfl, hy⟩
        · exfalso; rw [hy] at h2; simp at h2
        obtain ⟨hy1, hy2⟩ := snp_cells hy h2
        have hcy1 := cell_below hB hy1
        have hcy2 := cell_below hB hy2
        have HNE := Lib.hid (fun h => snps_ne h1 h2 h)
        have HST := Lib.hid (fun h : xs[k] = ys[k] => (show xs.take (k + 1) = ys.take (k + 1) by rw [List.take_succ_eq_append_getElem h1, List.take_succ_eq_append_getElem h2, HT.out, h]))
        clear hx hy hB hx1 hx2 hy1 hy2
        generalize xs[k] = p at *
        generalize ys[k] = q at *
        obtain ⟨p1, p2⟩ := p
        obtain ⟨q1, q2⟩ := q
        have h1' : (k : Int) < (xs.length : Int) := by omega
        have h2' : (k : Int) < (ys.length : Int) := by omega
        by_cases hpq : p1 = q1 ∧ p2 = q2
        · obtain ⟨rfl, rfl⟩ := hpq
          have HS := Lib.hid (HST.out rfl)
          go_wp2
          go_quiet (fail)
          go_wp2
          go_roundw
          case rel => exact ⟨k + 1, by omega, by go_num, HS.out, belowN HB.out _⟩
          case measure => simp [intOf]; omega
        · have HS := Lib.hid (HNE.out (by intro h; cases h; exact hpq ⟨rfl, rfl⟩))
          have hcase : (p1 == q1) = false ∨ ((p1 == q1) = true ∧ (p2 == q2) = false) := by
            by_cases h1 : p1 = q1
            · exact .inr ⟨by rw [beq_iff_eq]; exact h1, by rw [beq_eq_false_iff_ne]; exact fun h => hpq ⟨h1, h⟩⟩
            · exact .inl (by rw [beq_eq_false_iff_ne]; exact h1)
          clear hpq
          rcases hcase with h3 | ⟨h3, h4⟩
          all_goals
            go_wp2
            go_quiet (fail)
            go_wp2
            go_ret
            exact ⟨ret_bool HS.out.symm, belowN HB.out _⟩
      · have h1' : ¬ (k : Int) < (xs.length : Int) := by omega
        have HK := Lib.hid (show k = xs.length by omega)
        go_wp2
        go_ret
        exact ⟨ret_bool (snps_eq HL.out (by rw [← HK.out]; exact HT.out)).symm, HB.out⟩
  · have hne : ((xs.length : Int) != (ys.length : Int)) = true := by rw [bne_iff_ne]; omega
    have HE := Lib.hid (show (xs == ys) = false by rw [beq_eq_false_iff_ne]; rintro rfl; exact hl rfl)
    clear hl
    go_enter Tryz.func11, Tryz.ntmps11
    go_wp2
    go_ret
    exact ⟨ret_bool HE.out.symm, Below.refl _ _⟩
end Go.Proofs.YtbmdoekfbkpaeaaGreatDoor

namespace Go.Proofs.YtbmdoekfbkpaeaaGreatDoor
open Go.RowKit

theorem readyNil (pc : List UInt8 → List (List UInt8)) : Ready pc [] := ⟨⟨by simp, by simp [upT], by simp, by simp [sizeT]⟩, by simp, by simp, by simp⟩
theorem dirN_nil (pc : List UInt8 → List (List UInt8)) (n : Nat) (d : List UInt8) : dirN pc [] n d = ⟨3, [], [], []⟩ := by
  cases n <;> rfl
theorem fitE : FitN ⟨3, [], [], []⟩ := .inr (.inr ⟨rfl, rfl, rfl, ⟨by simp, by simp, by simp [risesE]⟩⟩)
theorem writeE : writeN ⟨3, [], [], []⟩ = [3, 0] := by
  unfold writeN
  rw [if_pos (fitN_iff.2 fitE)]
  have : putV 0 = [0] := by unfold putV; simp
  simp [bodyN, this]
theorem dirO_nil (pc : List UInt8 → List (List UInt8)) : dirO pc [] 9 [] [] = [(keyN ⟨3, [], [], []⟩, [3, 0])] := by
  rw [dirO_succ]
  show putN (someO pc [] 8 [] []) _ = _
  rw [dirN_nil]
  show addO [] _ = _
  unfold addO
  rw [if_neg]
  · rw [writeE]; rfl
  · have := keyN_len fitE
    simp [findR, this]

set_option maxHeartbeats 4000000 in
set_option maxRecDepth 100000 in
theorem awake12b_walk (w : World) (hM : Mx w) (hT : TzT w) : Calls Tryz.prog 8 #[] w fun e w' => e = .returned (.bool true) ∧ Below w.heap.size w w' := by
  have C := build12_walk 2 2 4 8 0 none [] w ⟨by omega, by omega, by omega, by omega, by omega, by omega⟩ rfl (readyNil _) (Row.nil _ _) hM hT (by simp)
  rw [dirN_nil, dirO_nil] at C
  generalize keyN ⟨3, [], [], []⟩ = kk at *
  go_enter Tryz.func8, Tryz.ntmps8
  go_wp2_with fail
  refine C.mono ?_
  rintro e w1 ⟨v, rfl, ⟨a, c, rfl, hc, hm, hx⟩, hb1⟩
  have hlen : (([(kk, [3, 0])] : List Snp).length : Int) = 1 := rfl
  rcases hx with hx | ⟨b, o, rfl, hx⟩
  · cases hx
  obtain ⟨hx1, hx2⟩ := snp_cells hx (j := 0) (by simp)
  simp only [Nat.zero_mul, Nat.add_zero, List.getElem_cons_zero] at hx1 hx2
  have hlt : (0 : Int) < (([(kk, [3, 0])] : List Snp).length : Int) := by simp
  clear hx C hc hm
  go_wp2
  go_ret
  exact ⟨rfl, hb1⟩
end Go.Proofs.YtbmdoekfbkpaeaaGreatDoor

namespace Go.Proofs.YtbmdoekfbkpaeaaGreatDoor
open Go.RowKit

theorem Ready.objs {pc : List UInt8 → List (List UInt8)} {items : List Itm} (h : Ready pc items) : (dirO pc items 9 [] []).length ≤ 70000 ∧ fit5 (namesR (dirO pc items 9 [] [])) = true := by
  have hA := h.among 9 [] [] (.inl rfl) rfl ⟨rfl, by simp [namesR]⟩
  exact ⟨Nat.le_trans hA.len h.keys_len, hA.1⟩

set_option maxHeartbeats 8000000 in
set_option maxRecDepth 100000 in
theorem builds12_walk (x y z : Int) (v : Value) (l : List Itm) (w : World) (hM : Mx w) (hT : TzT w) (hr : ItRow w v l) (hd : ∀ i ∈ l, i.2.2.2.length ≤ 140737488355328) :
    Calls Tryz.prog 3 #[.agg #[.int .i64 x, .int .i64 y, .int .i64 z], v] w fun e w' => e = .returned (.bool true) ∧ Below w.heap.size w w' := by
  obtain ⟨w1, hw1, HB1, HC1⟩ : ∃ w1, w1 = w.alloc (.cells #[.int .i64 x, .int .i64 y, .int .i64 z] 23) ∧ Hid (Below w.heap.size w w1) ∧ Hid (w1.heap[w.heap.size]? = some (.cells #[.int .i64 x, .int .i64 y, .int .i64 z] 23 (0, 0))) :=
    ⟨_, rfl, Lib.hid ((Below.refl _ _).alloc (Nat.le_refl _) _), Lib.hid (heap_alloc_new _ _)⟩
  have C1 := few12_walk x y z v l w1 (hr.below HB1.out) hd
  have HR := Lib.hid hr
  have HM := Lib.hid hM
  have HT := Lib.hid hT
  obtain ⟨a, c, rfl, -⟩ := hr
  have c0 := heap_cell HC1.out (j := 0) (v := .int .i64 x) rfl
  have c1 := heap_cell HC1.out (j := 1) (v := .int .i64 y) rfl
  have c2 := heap_cell HC1.out (j := 2) (v := .int .i64 z) rfl
  clear hM hT hd
  go_enter Tryz.func3, Tryz.ntmps3
  go_upto_region 1 with fail
  rw [← hw1]
  clear hw1
  go_wp2_with fail
  refine C1.mono ?_
  rintro e w2 ⟨f, rfl, hf, hb2⟩
  have HB2 := Lib.hid (below_chain HB1.out hb2 HB1.out.size)
  have hC2 := (hb2.block _ (heap_lt HC1.out)).trans HC1.out
  have HF := Lib.hid hf
  clear C1 c0 c1 c2 hb2 hf
  cases f with
  | false => (have CA := awake12b_walk w2 (HM.out.below HB2.out) (HT.out.below HB2.out); go_wp2_with fail; refine CA.mono ?_; rintro e wy ⟨rfl, hby⟩; have hBy := below_chain HB2.out hby (Below.size HB2.out); go_wp2; go_ret; exact ⟨rfl, hBy⟩)
  | true =>
  obtain ⟨⟨x', k, z', hfc, rfl, rfl, rfl, hrd⟩, -⟩ := HF.out (by first | rfl | trivial)
  have CP := fun (W : World) (hb : Below w.heap.size w W) => build12_walk x' k (2 ^ k) z' c a l W hfc rfl hrd (HR.out.below hb) (HM.out.below hb) (HT.out.below hb) hrd.fit.len
  have CQ := fun (W : World) (hb : Below w.heap.size w W) => rbuild12_walk x' k (2 ^ k) z' (.slice a l.length c) l W hfc rfl hrd (HR.out.below hb)
  have HO := Lib.hid hrd.objs
  have HC2 := Lib.hid hC2
  have c0 := heap_cell hC2 (j := 0) (v := .int .i64 (x' : Nat)) rfl
  have c1 := heap_cell hC2 (j := 1) (v := .int .i64 ((2 ^ k : Nat) : Int)) rfl
  have c2 := heap_cell hC2 (j := 2) (v := .int .i64 (z' : Nat)) rfl
  clear hfc hrd hC2 HF
  generalize keyN (dirN (piecesC x' k z') l 9 []) = kk at *
  generalize dirO (piecesC x' k z') l 9 [] [] = oo at *
  generalize 2 ^ k = y at *
  have CP2 := CP w2 HB2.out
  go_wp2_with fail
  refine CP2.mono ?_
  rintro e w3 ⟨v3, rfl, hr3, hb3⟩
  have HB3 := Lib.hid (below_chain HB2.out hb3 HB2.out.size)
  have hC3 := (hb3.block _ (heap_lt HC2.out)).trans HC2.out
  have HR3 := Lib.hid hr3
  clear CP2 CP c0 c1 c2 hb3
  have c0 := heap_cell hC3 (j := 0) (v := .int .i64 (x' : Nat)) rfl
  have c1 := heap_cell hC3 (j := 1) (v := .int .i64 (y : Nat)) rfl
  have c2 := heap_cell hC3 (j := 2) (v := .int .i64 (z' : Nat)) rfl
  have CQ3 := CQ w3 HB3.out
  obtain ⟨a3, n3, rfl, -⟩ := hr3
  clear hC3 CQ
  go_wp2_with fail
  refine CQ3.mono ?_
  rintro e w4 ⟨v4, rfl, hr4, hb4⟩
  have HB4 := Lib.hid (below_chain HB3.out hb4 HB3.out.size)
  have HR4 := Lib.hid (HR3.out.below hb4)
  have CS := r12same_walk _ v4 oo oo w4 HR4.out hr4 (by have := HO.out.1; omega)
  have he : (oo == oo) = true := by simp
  rw [he] at CS
  obtain ⟨a4, n4, rfl, -⟩ := hr4
  clear CQ3 c0 c1 c2 hb4 he
  have hkk : (kk == kk) = true := by simp
  go_wp2_with fail
  refine CS.mono ?_
  rintro e w5 ⟨rfl, hb5⟩
  have HB5 := Lib.hid (below_chain HB4.out hb5 HB4.out.size)
  have CF := rfitO_walk _ oo w5 (HR4.out.below hb5) (by have := HO.out.1; omega)
  rw [HO.out.2] at CF
  clear CS hb5
  go_wp2_with fail
  refine CF.mono ?_
  rintro e w6 ⟨rfl, hb6⟩
  have HB6 := Lib.hid (below_chain HB5.out hb6 HB5.out.size)
  clear CF hb6
  have CA := awake12b_walk w6 (HM.out.below HB6.out) (HT.out.below HB6.out)
  go_wp2_with fail
  refine CA.mono ?_
  rintro e w7 ⟨rfl, hb7⟩
  have hB7 := below_chain HB6.out hb7 HB6.out.size
  clear CA
  go_wp2
  go_ret
  exact ⟨rfl, hB7⟩
end Go.Proofs.YtbmdoekfbkpaeaaGreatDoor

namespace Go.Proofs.YtbmdoekfbkpaeaaGreatDoor
open Go.ChangeShapes Go.WideShapes Go.ChangeAt Go.RowKit Go.Deep Go.Joins

theorem S_toList (s : ByteArray) : S s.data.toList = .string s := by cases s; simp
theorem spot_none {W : World} {a : Addr} {v : Value} (h : W.cell? a = some v) : a.spot = none := by
  simp only [World.cell?] at h
  split at h
  · split at h
    · cases h
    · cases hh : a.spot <;> simp_all
  · cases h
theorem addr_cell {b o i K j : Nat} : (((⟨b, o, none⟩ : Addr).add (i * K)).add j) = ⟨b, o + i * K + j, none⟩ := by rw [Addr.add_lit, Addr.add_lit]

section
variable {H : Type} {enc : TypeId × Value → H} {P : Program} {W : World} {base : Nat} {sp : Nat → Bool} {held : Bool}
/-- A slice of elements of K cells, each of which reads as f of something. -/
theorem rowK_of_trod {α : Type} (f : α → List Value) (Good : α → Prop) {K : Nat} (hK : 0 < K) (hf : ∀ x, (f x).length = K) {t e : TypeId} {fuel : Nat} {v : Value} {x : DataW H × List MemPlace}
    (ht : P.underlying t = some (.slice e)) (hc : P.cellsOf e = K) (he : ∀ n cs y, DataW.trod enc P W base sp held n e cs = some y → cs.length = K → ∃ z : α, cs = f z ∧ Good z)
    (h : DataW.trod enc P W base sp held fuel t [v] = some x) : ∃ xs, Row f W v xs ∧ ∀ z ∈ xs, Good z := by
  rcases open_slice ht h with ⟨h1, _⟩ | ⟨a, len, cap, m, n, D, Pl, h1, _, hl, hm, hmm, _, hi⟩
  · obtain rfl : v = .slice none 0 0 := by simpa using h1
    exact ⟨[], Row.nil _ W, by simp⟩
  · obtain rfl : v = .slice (some a) len cap := by simpa using h1
    have hle : len ≤ m := by rw [hmm]; split <;> omega
    have hs : ∀ i : Fin len, ∃ z : α, (∀ j u, (f z)[j]? = some u → W.cell? ((a.add (i.val * K)).add j) = some u) ∧ Good z := by
      intro i
      obtain ⟨cs', hcs, htr⟩ := hi i.val (by have := i.isLt; omega)
      rw [hc] at hcs
      obtain ⟨_, hcl, hat⟩ := World.cells?_some hcs
      obtain ⟨z, rfl, hg⟩ := he _ _ _ htr hcl
      refine ⟨z, fun j u hu => ?_, hg⟩
      have hj := (List.getElem?_eq_some_iff.1 hu).1
      have h2 := hat j (by rw [hf] at hj; exact hj)
      rw [h2]
      simpa using hu
    obtain ⟨g, hg⟩ := Classical.axiomOfChoice hs
    by_cases h0 : len = 0
    · subst h0
      exact ⟨[], ⟨some a, cap, rfl, hl, hm, .inl rfl⟩, by simp⟩
    · refine ⟨List.ofFn g, ⟨some a, cap, by simp, by simpa using hl, hm, .inr ?_⟩, fun z hz => ?_⟩
      · have hlen : 0 < len := by omega
        obtain ⟨u, hu⟩ : ∃ u, (f (g ⟨0, hlen⟩))[0]? = some u := ⟨(f (g ⟨0, hlen⟩))[0]'(by rw [hf]; exact hK), List.getElem?_eq_getElem _⟩
        have hz := spot_none ((hg ⟨0, by omega⟩).1 0 u hu)
        obtain ⟨b, o, s⟩ := a
        have hs0 : s = none := by simpa [Addr.add] using hz
        subst hs0
        refine ⟨b, o, rfl, fun j x hx i u hu => ?_⟩
        rw [List.getElem?_ofFn] at hx
        split at hx
        · rename_i hj
          cases hx
          have h1 := (hg ⟨j, hj⟩).1 i u hu
          rw [addr_cell] at h1
          rw [hf]; exact h1
        · cases hx
      · obtain ⟨i, hi⟩ := List.getElem?_of_mem hz
        rw [List.getElem?_ofFn] at hi
        split at hi
        · cases hi; exact (hg _).2
        · cases hi
end

theorem list2 {α : Type} {l : List α} (h : l.length = 2) : ∃ a b, l = [a, b] := by
  match l, h with
  | [a, b], _ => exact ⟨a, b, rfl⟩
theorem list3 {α : Type} {l : List α} (h : l.length = 3) : ∃ a b c, l = [a, b, c] := by
  match l, h with
  | [a, b, c], _ => exact ⟨a, b, c, rfl⟩

theorem list4 {α : Type} {l : List α} (h : l.length = 4) : ∃ a b c d, l = [a, b, c, d] := by
  match l, h with
  | [a, b, c, d], _ => exact ⟨a, b, c, d, rfl⟩
end Go.Proofs.YtbmdoekfbkpaeaaGreatDoor

namespace Go.Proofs.YtbmdoekfbkpaeaaGreatDoor
open Go.ChangeShapes Go.WideShapes Go.ChangeAt Go.RowKit Go.Deep Go.Joins

set_option maxRecDepth 100000 in
theorem sizesT : Tryz.prog.cellsOf 47 = 4 ∧ Tryz.prog.cellsOf 9 = 1 ∧ Tryz.prog.cellsOf 4 = 1 := by
  refine ⟨?_, ?_, ?_⟩ <;> kernel_rfl
section
variable {H : Type} {enc : TypeId × Value → H} {W : World} {base : Nat} {sp : Nat → Bool} {held : Bool}
set_option maxRecDepth 100000 in
theorem itc_of_trod (n : Nat) (cs : List Value) (y : DataW H × List MemPlace) (h : DataW.trod enc Tryz.prog W base sp held n 47 cs = some y) (hl : cs.length = 4) : ∃ x : Itm, cs = itC x ∧ True := by
  obtain ⟨c0, c1, c2, c3, rfl⟩ := list4 hl
  obtain ⟨ys, n', _, _, _, hyl, hf⟩ := DataW.trod_struct Tryz.underlying47 h
  have t1 := hf 0 _ rfl
  have t2 := hf 1 _ rfl
  have t3 := hf 2 _ rfl
  have t4 := hf 3 _ rfl
  change DataW.trod enc Tryz.prog W base sp held n' 9 (([c0, c1, c2, c3].drop 0).take (Tryz.prog.cellsOf 9)) = ys[0]? at t1
  change DataW.trod enc Tryz.prog W base sp held n' 4 (([c0, c1, c2, c3].drop 1).take (Tryz.prog.cellsOf 4)) = ys[1]? at t2
  change DataW.trod enc Tryz.prog W base sp held n' 4 (([c0, c1, c2, c3].drop 2).take (Tryz.prog.cellsOf 4)) = ys[2]? at t3
  change DataW.trod enc Tryz.prog W base sp held n' 9 (([c0, c1, c2, c3].drop 3).take (Tryz.prog.cellsOf 9)) = ys[3]? at t4
  rw [sizesT.2.1] at t1 t4
  rw [sizesT.2.2] at t2 t3
  match ys, hyl with
  | [y0, y1, y2, y3], _ =>
    obtain ⟨s1, e1, _⟩ := DataW.trod_string Tryz.underlying9 (show DataW.trod enc Tryz.prog W base sp held n' 9 [c0] = some y0 from t1)
    obtain ⟨b2, e2, _⟩ := DataW.trod_bool Tryz.underlying4 (show DataW.trod enc Tryz.prog W base sp held n' 4 [c1] = some y1 from t2)
    obtain ⟨b3, e3, _⟩ := DataW.trod_bool Tryz.underlying4 (show DataW.trod enc Tryz.prog W base sp held n' 4 [c2] = some y2 from t3)
    obtain ⟨s4, e4, _⟩ := DataW.trod_string Tryz.underlying9 (show DataW.trod enc Tryz.prog W base sp held n' 9 [c3] = some y3 from t4)
    cases e1; cases e2; cases e3; cases e4
    exact ⟨(s1.data.toList, b2, b3, s4.data.toList), by simp, trivial⟩
set_option maxRecDepth 100000 in
theorem item_of_trod {b0 : Nat} {r : Reach} {v : Value} {d : DataW H} {ps : List MemPlace}
    (hval : Value.okWide Tryz.prog W r b0 47 v) (h : DataW.Trod enc Tryz.prog W base sp held 47 v d ps) : ∃ x : Itm, v = ItV x := by
  obtain ⟨cs, rfl, hsz⟩ := okWide_struct Tryz.underlying47 hval
  obtain ⟨l, rfl⟩ : ∃ l : List Value, cs = l.toArray := ⟨cs.toList, by simp⟩
  obtain ⟨fuel, hfu⟩ := h
  obtain ⟨x, e, -⟩ := itc_of_trod fuel l (d, ps) (by simpa [Value.cells] using hfu) (by simpa using hsz.trans sizesT.1)
  exact ⟨x, by rw [e]⟩
set_option maxRecDepth 100000 in
theorem items_of_trod {b0 : Nat} {r : Reach} {v : Value} {d : DataW H} {ps : List MemPlace}
    (hval : Value.okWide Tryz.prog W r b0 24 v) (h : DataW.Trod enc Tryz.prog W base sp held 24 v d ps) : ∃ xs : List Itm, ItRow W v xs := by
  obtain ⟨a0, n0, c0, rfl⟩ := okWide_slice Tryz.underlying24 hval
  obtain ⟨fuel, hf⟩ := h
  obtain ⟨xs, hr, _⟩ := rowK_of_trod (K := 4) itC (fun _ => True) (by omega) (fun _ => rfl) Tryz.underlying24 sizesT.1 itc_of_trod (show DataW.trod enc Tryz.prog W base sp held fuel 24 [.slice a0 n0 c0] = some _ from hf)
  exact ⟨xs, hr⟩
end
end Go.Proofs.YtbmdoekfbkpaeaaGreatDoor
