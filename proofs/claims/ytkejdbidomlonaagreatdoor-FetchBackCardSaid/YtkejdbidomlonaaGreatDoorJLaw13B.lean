/- FetchBack: the tree of what it was built to is the tree, unless two of its bytes have one sum; what is reached is all of it. A statement's arguments, opened: slices of elements of some cells. A statement's arguments, opened: trees' items. A statement's arguments, opened: trees' items, how long their texts can be; parameters. The library's variable errors.errorType, out of the row's condition. -/
import Derived.Test.YtkejdbidomlonaaGreatDoorJNodesW
import Derived.Test.YtkejdbidomlonaaGreatDoorJReady12
import Derived.Test.YtkejdbidomlonaaGreatDoorJRPut12
import Derived.Test.YtkejdbidomlonaaGreatDoorJRBuild12
import Derived.Test.YtkejdbidomlonaaGreatDoorJClash12
import Derived.Test.YtkejdbidomlonaaGreatDoorFetchR
import Derived.Test.YtkejdbidomlonaaGreatDoorJFetchK
import Derived.Test.YtkejdbidomlonaaGreatDoorJReachP
import Derived.Test.YtkejdbidomlonaaGreatDoorJPlain
import Derived.SliceStrings
import Derived.OpenShut
import Derived.ProofKit
import Derived.ChangeOld
import Derived.ChangeMaps5
import Derived.Deep.Slices
import Derived.Lib.SmallJoins
import Derived.Test.YtkejdbidomlonaaGreatDoorJItB
import Derived.Test.YtkejdbidomlonaaGreatDoorRows
import Derived.Test.YtkejdbidomlonaaGreatDoorJAs11
import Derived.RowKitTokens
import Derived.LaidLaws
import Derived.LaidHandle
import Derived.Stop.Joined
namespace Go.Proofs.YtkejdbidomlonaaGreatDoor
open Go.RowKit

/-- What a tree's objects are to the fetcher. -/
structure BackT (key : List UInt8) (o : List Snp) (l : List Itm) (rs : List (List UInt8)) : Prop where
  len : o.length ≤ 70000
  raw : ∀ x ∈ o, x.2.length ≤ 1000000
  up : upS (namesR o)
  tot : rawsL o ≤ 4000000
  told : ¬ ClashP rs → toldC o key = (l, 0)
  all : ¬ ClashP rs → ∀ Q, upS Q → (∀ x, x ∈ Q ↔ Reached o (seedP [key]) x) → Q.all (okO o) = true ∧ Q = setOf (namesR o)
theorem Ready.back {pc : List UInt8 → List (List UInt8)} {items : List Itm} (h : Ready pc items) : BackT (keyN (dirN pc items 9 [])) (dirO pc items 9 [] []) items (rawsN (nodesD pc items 9 [])) := by
  have hA := h.among 9 [] [] (.inl rfl) rfl ⟨rfl, by simp [namesR]⟩
  have hns := nodesD_fit h 9 []
  refine ⟨Nat.le_trans hA.len h.keys_len, fun x hx => by have := objs_raw h hx; omega, fit5_up12 hA.1, rawsL_objs h, fun hc => ?_, fun hc Q hu hm => ?_⟩
  · have h1 := told_back h (loads_objs h (one_of_clash hns hc))
    unfold toldC
    rw [h1]; rfl
  · have h1 := one_of_clash hns hc
    have hmem : ∀ x, x ∈ Q ↔ x ∈ namesR (dirO pc items 9 [] []) := fun x => (hm x).trans (reach_all h h1 x)
    refine ⟨reach_ok h h1 (fun x hx => (hmem x).1 hx), ?_⟩
    refine up_ext hu (setOf_up _) fun x => ?_
    rw [hmem, setOf_mem]
    refine ⟨fun hx => ⟨hx, ?_⟩, fun hx => hx.1⟩
    obtain ⟨y, hy, rfl⟩ := List.mem_map.1 hx
    obtain ⟨n, hn, rfl⟩ := obj_node h hy
    exact keyN_len (hns n hn)

set_option maxHeartbeats 16000000 in
set_option maxRecDepth 100000 in
theorem back13_walk (x y z : Int) (v : Value) (l : List Itm) (w : World) (hT : ErrT w) (hr : ItRow w v l) (hd : ∀ i ∈ l, i.2.2.2.length ≤ 140737488355328) :
    Calls Tryz.prog 5 #[.agg #[.int .i64 x, .int .i64 y, .int .i64 z], v] w fun e w' => e = .returned (.bool true) ∧ Below w.heap.size w w' := by
  obtain ⟨w1, hw1, HB1, HC1⟩ : ∃ w1, w1 = w.alloc (.cells #[.int .i64 x, .int .i64 y, .int .i64 z] 23) ∧ Hid (Below w.heap.size w w1) ∧ Hid (w1.heap[w.heap.size]? = some (.cells #[.int .i64 x, .int .i64 y, .int .i64 z] 23 (0, 0))) :=
    ⟨_, rfl, Lib.hid ((Below.refl _ _).alloc (Nat.le_refl _) _), Lib.hid (heap_alloc_new _ _)⟩
  have C1 := few13_walk x y z v l w1 (hr.below HB1.out) hd
  have HR := Lib.hid hr
  have HT := Lib.hid hT
  obtain ⟨a, c, rfl, -⟩ := hr
  have c0 := heap_cell HC1.out (j := 0) (v := .int .i64 x) rfl
  have c1 := heap_cell HC1.out (j := 1) (v := .int .i64 y) rfl
  have c2 := heap_cell HC1.out (j := 2) (v := .int .i64 z) rfl
  clear hT hd
  go_enter Tryz.func5, Tryz.ntmps5
  go_upto_region 1 with fail
  rw [← hw1]
  clear hw1
  go_wp2_with fail
  refine C1.mono ?_
  rintro e w2 ⟨f, rfl, hf, hb2⟩
  have HB2 := Lib.hid (below_chain HB1.out hb2 HB1.out.size)
  have hC2 := (hb2.block _ (heap_lt HC1.out)).trans HC1.out
  have HF := Lib.hid hf
  clear C1 c0 c1 c2 hb2 hf
  cases f with
  | false => (have CA := awake13_walk w2 (HT.out.below HB2.out); go_wp2_with fail; refine CA.mono ?_; rintro e wy ⟨rfl, hby⟩; have hBy := below_chain HB2.out hby (Below.size HB2.out); go_wp2; go_ret; exact ⟨rfl, hBy⟩)
  | true =>
  obtain ⟨⟨x', k, z', hfc, rfl, rfl, rfl, hrd⟩, hll, -, -⟩ := HF.out (by first | rfl | trivial)
  have CP := rbuild12_walk x' k (2 ^ k) z' (.slice a l.length c) l w2 hfc rfl hrd (HR.out.below HB2.out)
  have CRL := fun (W : World) (hb : Below w.heap.size w W) => rraws12_walk x' k (2 ^ k) z' (.slice a l.length c) l W hfc rfl hrd (HR.out.below hb) (by have := hrd.nodes_len; omega)
  have HO := Lib.hid hrd.back
  have HRS := Lib.hid (rawsN_small (nodesD (piecesC x' k z') l 9 []))
  have hrl : (rawsN (nodesD (piecesC x' k z') l 9 [])).length ≤ 70000 := by rw [rawsN_len]; exact hrd.nodes_len
  have HC2 := Lib.hid hC2
  have c0 := heap_cell hC2 (j := 0) (v := .int .i64 (x' : Nat)) rfl
  have c1 := heap_cell hC2 (j := 1) (v := .int .i64 ((2 ^ k : Nat) : Int)) rfl
  have c2 := heap_cell hC2 (j := 2) (v := .int .i64 (z' : Nat)) rfl
  clear hfc hrd hC2 HF
  generalize keyN (dirN (piecesC x' k z') l 9 []) = k1 at *
  generalize rawsN (nodesD (piecesC x' k z') l 9 []) = rs at *
  generalize dirO (piecesC x' k z') l 9 [] [] = oo at *
  generalize 2 ^ k = y at *
  go_wp2_with fail
  refine CP.mono ?_
  rintro e w4 ⟨v4, rfl, hr4, hb4⟩
  have HB4 := Lib.hid (below_chain HB2.out hb4 HB2.out.size)
  have HC4 := Lib.hid ((hb4.block _ (heap_lt HC2.out)).trans HC2.out)
  have HR4 := Lib.hid hr4
  have CT := tree13_walk v4 oo k1 w4 hr4 (HT.out.below HB4.out) HO.out.up (by have := HO.out.len; omega) HO.out.raw
  obtain ⟨a4, n4, rfl, -, -, hx4⟩ := hr4
  have HX4 := Lib.hid hx4
  have hol := HO.out.len
  obtain ⟨tc, htc⟩ : ∃ tc, toldC oo k1 = tc := ⟨_, rfl⟩
  have HTC := Lib.hid htc
  rw [htc] at CT
  clear CP c0 c1 c2 hb4 hx4 htc
  go_wp2_with fail
  refine CT.mono ?_
  rintro e w5 ⟨mv, rfl, hm5, hb5⟩
  have HB5 := Lib.hid (below_chain HB4.out hb5 HB4.out.size)
  have HC5 := Lib.hid ((hb5.block _ (heap_lt HC4.out)).trans HC4.out)
  have HR5 := Lib.hid (HR4.out.below hb5)
  have HM5 := Lib.hid hm5
  obtain ⟨ma, mc, rfl⟩ := row_slice hm5
  have HB6 := Lib.hid (show Below w5.heap.size w5 (w5.alloc (.cells #[S k1] 9)) from (Below.refl _ _).alloc (Nat.le_refl _) _)
  have hrow6 : StrRow (w5.alloc (.cells #[S k1] 9)) (.slice (some ⟨w5.heap.size, 0, none⟩) 1 1) [k1] := row_lit w5 9 [k1] (by simp)
  have HBW6 := Lib.hid (below_chain HB5.out HB6.out HB5.out.size)
  have CR := preach_walk _ _ oo [k1] _ (HR5.out.below HB6.out) hrow6 (HT.out.below HBW6.out) HO.out.up (by omega) HO.out.raw (by have := HO.out.tot; simp; omega)
  clear CT hm5 hb5 hrow6
  go_wp2_with fail
  refine CR.mono ?_
  rintro e w7 ⟨qv, Q, rfl, hq7, huq, hmq, hb7⟩
  have HB7 := Lib.hid (below_chain HBW6.out hb7 HBW6.out.size)
  have HQ7 := Lib.hid hq7
  have HALL := Lib.hid (fun hc => HO.out.all hc Q huq hmq)
  have h57 := below_chain HB6.out hb7 HB6.out.size
  have HR7 := Lib.hid (HR5.out.below h57)
  have HM7 := Lib.hid (HM5.out.below h57)
  have hC7 := (h57.block _ (heap_lt HC5.out)).trans HC5.out
  obtain ⟨qa, qc, rfl, -, -, -⟩ := hq7
  have hql : Q.length ≤ 1000000 := by
    have h8 := GInv.nodup_few (o := oo) (P := seedP [k1]) (l := [k1]) (fun _ h => h.1) (up_nodup huq) (fun x h => (hmq x).1 h)
    have := HO.out.tot
    simp only [List.length_singleton] at h8
    omega
  have CW := CRL w7 HB7.out
  have c0 := heap_cell hC7 (j := 0) (v := .int .i64 (x' : Nat)) rfl
  have c1 := heap_cell hC7 (j := 1) (v := .int .i64 (y : Nat)) rfl
  have c2 := heap_cell hC7 (j := 2) (v := .int .i64 (z' : Nat)) rfl
  clear CR huq hmq hb7 h57 hC7
  generalize Q.all (okO oo) = qok at *
  go_wp2_with fail
  refine CW.mono ?_
  rintro e w8 ⟨rv, rfl, hrv, hb8⟩
  have HB8 := Lib.hid (below_chain HB7.out hb8 HB7.out.size)
  have HR8 := Lib.hid (HR7.out.below hb8)
  have HM8 := Lib.hid (HM7.out.below hb8)
  have HQ8 := Lib.hid (HQ7.out.below hb8)
  have CC := rclash12_walk rv rs w8 (StrRow.of_owns hrv) (by omega) HRS.out
  clear CW hrv hb8 c0 c1 c2 CRL
  go_wp2_with fail
  refine CC.mono ?_
  rintro e w9 ⟨cl, rfl, hcl, hb9⟩
  have HB9 := Lib.hid (below_chain HB8.out hb9 HB8.out.size)
  have HR9 := Lib.hid (HR8.out.below hb9)
  have HM9 := Lib.hid (HM8.out.below hb9)
  have HQ9 := Lib.hid (HQ8.out.below hb9)
  have HCL := Lib.hid hcl
  clear CC hb9 hcl
  cases cl with
  | true => (have CA := awake13_walk w9 (HT.out.below HB9.out); go_wp2_with fail; refine CA.mono ?_; rintro e wy ⟨rfl, hby⟩; have hBy := below_chain HB9.out hby (Below.size HB9.out); go_wp2; go_ret; exact ⟨rfl, hBy⟩)
  | false =>
  have hnc : ¬ ClashP rs := fun h => by cases HCL.out.2 h
  obtain ⟨rfl, hqs⟩ := HALL.out hnc
  have htl := HO.out.told hnc
  rw [HTC.out] at htl
  subst htl
  have CS := r10same_walk _ _ l l w9 HM9.out (HR.out.below HB9.out) (by omega) (by omega)
  rw [show decide (l = l) = true by simp] at CS
  have HQS := Lib.hid hqs
  clear hqs hnc HALL HTC
  go_wp2_with fail
  refine CS.mono ?_
  rintro e wa ⟨rfl, hba⟩
  have HBA := Lib.hid (below_chain HB9.out hba HB9.out.size)
  have CK := rkeys12_walk _ oo wa (HR9.out.below hba) (by omega)
  have HQA := Lib.hid (HQ9.out.below hba)
  clear CS hba
  go_wp2_with fail
  refine CK.mono ?_
  rintro e wb ⟨kv, rfl, hkv, hbb⟩
  have HBB := Lib.hid (below_chain HBA.out hbb HBA.out.size)
  have CE := rsame5_walk _ _ Q (setOf (namesR oo)) wb (HQA.out.below hbb) hkv (by omega)
  rw [decide_eq_true HQS.out] at CE
  obtain ⟨ka, kc, rfl, -, -, -⟩ := hkv
  clear CK hbb
  go_wp2_with fail
  refine CE.mono ?_
  rintro e wc ⟨rfl, hbc⟩
  have HBC := Lib.hid (below_chain HBB.out hbc HBB.out.size)
  have CA := awake13_walk wc (HT.out.below HBC.out)
  clear CE hbc
  go_wp2_with fail
  refine CA.mono ?_
  rintro e wy ⟨rfl, hby⟩
  have hBy := below_chain HBC.out hby (Below.size HBC.out)
  go_wp2
  go_ret
  exact ⟨rfl, hBy⟩
end Go.Proofs.YtkejdbidomlonaaGreatDoor

namespace Go.Proofs.YtkejdbidomlonaaGreatDoor
open Go.ChangeShapes Go.WideShapes Go.ChangeAt Go.RowKit Go.Deep Go.Joins

theorem S_toList (s : ByteArray) : S s.data.toList = .string s := by cases s; simp
theorem spot_none {W : World} {a : Addr} {v : Value} (h : W.cell? a = some v) : a.spot = none := by
  simp only [World.cell?] at h
  split at h
  · split at h
    · cases h
    · cases hh : a.spot <;> simp_all
  · cases h
theorem addr_cell {b o i K j : Nat} : (((⟨b, o, none⟩ : Addr).add (i * K)).add j) = ⟨b, o + i * K + j, none⟩ := by rw [Addr.add_lit, Addr.add_lit]

section
variable {H : Type} {enc : TypeId × Value → H} {P : Program} {W : World} {base : Nat} {sp : Nat → Bool} {held : Bool}
/-- A slice of elements of K cells, each of which reads as f of something. -/
theorem rowK_of_trod {α : Type} (f : α → List Value) (Good : α → Prop) {K : Nat} (hK : 0 < K) (hf : ∀ x, (f x).length = K) {t e : TypeId} {fuel : Nat} {v : Value} {x : DataW H × List MemPlace}
    (ht : P.underlying t = some (.slice e)) (hc : P.cellsOf e = K) (he : ∀ n cs y, DataW.trod enc P W base sp held n e cs = some y → cs.length = K → ∃ z : α, cs = f z ∧ Good z)
    (h : DataW.trod enc P W base sp held fuel t [v] = some x) : ∃ xs, Row f W v xs ∧ ∀ z ∈ xs, Good z := by
  rcases open_slice ht h with ⟨h1, _⟩ | ⟨a, len, cap, m, n, D, Pl, h1, _, hl, hm, hmm, _, hi⟩
  · obtain rfl : v = .slice none 0 0 := by simpa using h1
    exact ⟨[], Row.nil _ W, by simp⟩
  · obtain rfl : v = .slice (some a) len cap := by simpa using h1
    have hle : len ≤ m := by rw [hmm]; split <;> omega
    have hs : ∀ i : Fin len, ∃ z : α, (∀ j u, (f z)[j]? = some u → W.cell? ((a.add (i.val * K)).add j) = some u) ∧ Good z := by
      intro i
      obtain ⟨cs', hcs, htr⟩ := hi i.val (by have := i.isLt; omega)
      rw [hc] at hcs
      obtain ⟨_, hcl, hat⟩ := World.cells?_some hcs
      obtain ⟨z, rfl, hg⟩ := he _ _ _ htr hcl
      refine ⟨z, fun j u hu => ?_, hg⟩
      have hj := (List.getElem?_eq_some_iff.1 hu).1
      have h2 := hat j (by rw [hf] at hj; exact hj)
      rw [h2]
      simpa using hu
    obtain ⟨g, hg⟩ := Classical.axiomOfChoice hs
    by_cases h0 : len = 0
    · subst h0
      exact ⟨[], ⟨some a, cap, rfl, hl, hm, .inl rfl⟩, by simp⟩
    · refine ⟨List.ofFn g, ⟨some a, cap, by simp, by simpa using hl, hm, .inr ?_⟩, fun z hz => ?_⟩
      · have hlen : 0 < len := by omega
        obtain ⟨u, hu⟩ : ∃ u, (f (g ⟨0, hlen⟩))[0]? = some u := ⟨(f (g ⟨0, hlen⟩))[0]'(by rw [hf]; exact hK), List.getElem?_eq_getElem _⟩
        have hz := spot_none ((hg ⟨0, by omega⟩).1 0 u hu)
        obtain ⟨b, o, s⟩ := a
        have hs0 : s = none := by simpa [Addr.add] using hz
        subst hs0
        refine ⟨b, o, rfl, fun j x hx i u hu => ?_⟩
        rw [List.getElem?_ofFn] at hx
        split at hx
        · rename_i hj
          cases hx
          have h1 := (hg ⟨j, hj⟩).1 i u hu
          rw [addr_cell] at h1
          rw [hf]; exact h1
        · cases hx
      · obtain ⟨i, hi⟩ := List.getElem?_of_mem hz
        rw [List.getElem?_ofFn] at hi
        split at hi
        · cases hi; exact (hg _).2
        · cases hi
end

theorem list2 {α : Type} {l : List α} (h : l.length = 2) : ∃ a b, l = [a, b] := by
  match l, h with
  | [a, b], _ => exact ⟨a, b, rfl⟩
theorem list3 {α : Type} {l : List α} (h : l.length = 3) : ∃ a b c, l = [a, b, c] := by
  match l, h with
  | [a, b, c], _ => exact ⟨a, b, c, rfl⟩

theorem list4 {α : Type} {l : List α} (h : l.length = 4) : ∃ a b c d, l = [a, b, c, d] := by
  match l, h with
  | [a, b, c, d], _ => exact ⟨a, b, c, d, rfl⟩
end Go.Proofs.YtkejdbidomlonaaGreatDoor

namespace Go.Proofs.YtkejdbidomlonaaGreatDoor
open Go.ChangeShapes Go.WideShapes Go.ChangeAt Go.RowKit Go.Deep Go.Joins

set_option maxRecDepth 100000 in
theorem sizesT : Tryz.prog.cellsOf 50 = 4 ∧ Tryz.prog.cellsOf 9 = 1 ∧ Tryz.prog.cellsOf 4 = 1 := by
  refine ⟨?_, ?_, ?_⟩ <;> kernel_rfl
section
variable {H : Type} {enc : TypeId × Value → H} {W : World} {base : Nat} {sp : Nat → Bool} {held : Bool}
set_option maxRecDepth 100000 in
theorem itc_of_trod (n : Nat) (cs : List Value) (y : DataW H × List MemPlace) (h : DataW.trod enc Tryz.prog W base sp held n 50 cs = some y) (hl : cs.length = 4) : ∃ x : Itm, cs = itC x ∧ True := by
  obtain ⟨c0, c1, c2, c3, rfl⟩ := list4 hl
  obtain ⟨ys, n', _, _, _, hyl, hf⟩ := DataW.trod_struct Tryz.underlying50 h
  have t1 := hf 0 _ rfl
  have t2 := hf 1 _ rfl
  have t3 := hf 2 _ rfl
  have t4 := hf 3 _ rfl
  change DataW.trod enc Tryz.prog W base sp held n' 9 (([c0, c1, c2, c3].drop 0).take (Tryz.prog.cellsOf 9)) = ys[0]? at t1
  change DataW.trod enc Tryz.prog W base sp held n' 4 (([c0, c1, c2, c3].drop 1).take (Tryz.prog.cellsOf 4)) = ys[1]? at t2
  change DataW.trod enc Tryz.prog W base sp held n' 4 (([c0, c1, c2, c3].drop 2).take (Tryz.prog.cellsOf 4)) = ys[2]? at t3
  change DataW.trod enc Tryz.prog W base sp held n' 9 (([c0, c1, c2, c3].drop 3).take (Tryz.prog.cellsOf 9)) = ys[3]? at t4
  rw [sizesT.2.1] at t1 t4
  rw [sizesT.2.2] at t2 t3
  match ys, hyl with
  | [y0, y1, y2, y3], _ =>
    obtain ⟨s1, e1, _⟩ := DataW.trod_string Tryz.underlying9 (show DataW.trod enc Tryz.prog W base sp held n' 9 [c0] = some y0 from t1)
    obtain ⟨b2, e2, _⟩ := DataW.trod_bool Tryz.underlying4 (show DataW.trod enc Tryz.prog W base sp held n' 4 [c1] = some y1 from t2)
    obtain ⟨b3, e3, _⟩ := DataW.trod_bool Tryz.underlying4 (show DataW.trod enc Tryz.prog W base sp held n' 4 [c2] = some y2 from t3)
    obtain ⟨s4, e4, _⟩ := DataW.trod_string Tryz.underlying9 (show DataW.trod enc Tryz.prog W base sp held n' 9 [c3] = some y3 from t4)
    cases e1; cases e2; cases e3; cases e4
    exact ⟨(s1.data.toList, b2, b3, s4.data.toList), by simp, trivial⟩
set_option maxRecDepth 100000 in
theorem item_of_trod {b0 : Nat} {r : Reach} {v : Value} {d : DataW H} {ps : List MemPlace}
    (hval : Value.okWide Tryz.prog W r b0 50 v) (h : DataW.Trod enc Tryz.prog W base sp held 50 v d ps) : ∃ x : Itm, v = ItV x := by
  obtain ⟨cs, rfl, hsz⟩ := okWide_struct Tryz.underlying50 hval
  obtain ⟨l, rfl⟩ : ∃ l : List Value, cs = l.toArray := ⟨cs.toList, by simp⟩
  obtain ⟨fuel, hfu⟩ := h
  obtain ⟨x, e, -⟩ := itc_of_trod fuel l (d, ps) (by simpa [Value.cells] using hfu) (by simpa using hsz.trans sizesT.1)
  exact ⟨x, by rw [e]⟩
set_option maxRecDepth 100000 in
theorem items_of_trod {b0 : Nat} {r : Reach} {v : Value} {d : DataW H} {ps : List MemPlace}
    (hval : Value.okWide Tryz.prog W r b0 24 v) (h : DataW.Trod enc Tryz.prog W base sp held 24 v d ps) : ∃ xs : List Itm, ItRow W v xs := by
  obtain ⟨a0, n0, c0, rfl⟩ := okWide_slice Tryz.underlying24 hval
  obtain ⟨fuel, hf⟩ := h
  obtain ⟨xs, hr, _⟩ := rowK_of_trod (K := 4) itC (fun _ => True) (by omega) (fun _ => rfl) Tryz.underlying24 sizesT.1 itc_of_trod (show DataW.trod enc Tryz.prog W base sp held fuel 24 [.slice a0 n0 c0] = some _ from hf)
  exact ⟨xs, hr⟩
end
end Go.Proofs.YtkejdbidomlonaaGreatDoor

namespace Go.Proofs.YtkejdbidomlonaaGreatDoor
open Go.ChangeShapes Go.WideShapes Go.ChangeAt Go.RowKit Go.Deep Go.Joins

section
variable {H : Type} {enc : TypeId × Value → H} {W : World} {base : Nat} {sp : Nat → Bool} {held : Bool}
theorem rowK_of_trodW {P : Program} {α : Type} (f : α → List Value) (Good : α → DataW H → Prop) {K : Nat} (hK : 0 < K) (hf : ∀ x, (f x).length = K) {t e : TypeId} {fuel : Nat} {v : Value} {x : DataW H × List MemPlace}
    (ht : P.underlying t = some (.slice e)) (hc : P.cellsOf e = K) (he : ∀ n cs y, DataW.trod enc P W base sp held n e cs = some y → cs.length = K → ∃ z : α, cs = f z ∧ Good z y.1)
    (h : DataW.trod enc P W base sp held fuel t [v] = some x) : ∃ xs, Row f W v xs ∧ (xs = [] ∨ ∃ elems sp', x.1 = .slice elems sp' ∧ elems.length = xs.length ∧ ∀ (j : Nat) z, xs[j]? = some z → ∃ d, elems[j]? = some d ∧ Good z d) := by
  rcases open_slice ht h with ⟨h1, _⟩ | ⟨a, len, cap, m, n, D, Pl, h1, _, hl, hm, hmm, hxx, hi⟩
  · obtain rfl : v = .slice none 0 0 := by simpa using h1
    exact ⟨[], Row.nil _ W, .inl rfl⟩
  · obtain rfl : v = .slice (some a) len cap := by simpa using h1
    have hle : len ≤ m := by rw [hmm]; split <;> omega
    have hs : ∀ i : Fin len, ∃ z : α, (∀ j u, (f z)[j]? = some u → W.cell? ((a.add (i.val * K)).add j) = some u) ∧ Good z (D i.val) := by
      intro i
      obtain ⟨cs', hcs, htr⟩ := hi i.val (by have := i.isLt; omega)
      rw [hc] at hcs
      obtain ⟨_, hcl, hat⟩ := World.cells?_some hcs
      obtain ⟨z, rfl, hg⟩ := he _ _ _ htr hcl
      refine ⟨z, fun j u hu => ?_, hg⟩
      have hj := (List.getElem?_eq_some_iff.1 hu).1
      have h2 := hat j (by rw [hf] at hj; exact hj)
      rw [h2]
      simpa using hu
    obtain ⟨g, hg⟩ := Classical.axiomOfChoice hs
    by_cases h0 : len = 0
    · subst h0
      exact ⟨[], ⟨some a, cap, rfl, hl, hm, .inl rfl⟩, .inl rfl⟩
    · refine ⟨List.ofFn g, ⟨some a, cap, by simp, by simpa using hl, hm, .inr ?_⟩, .inr ⟨(List.range len).map D, (List.range (m - len)).map fun j => D (len + j), by rw [hxx], by simp, fun j z hz => ?_⟩⟩
      · have hlen : 0 < len := by omega
        obtain ⟨u, hu⟩ : ∃ u, (f (g ⟨0, hlen⟩))[0]? = some u := ⟨(f (g ⟨0, hlen⟩))[0]'(by rw [hf]; exact hK), List.getElem?_eq_getElem _⟩
        have hz := spot_none ((hg ⟨0, by omega⟩).1 0 u hu)
        obtain ⟨b, o, s⟩ := a
        have hs0 : s = none := by simpa [Addr.add] using hz
        subst hs0
        refine ⟨b, o, rfl, fun j x hx i u hu => ?_⟩
        rw [List.getElem?_ofFn] at hx
        split at hx
        · rename_i hj
          cases hx
          have h1 := (hg ⟨j, hj⟩).1 i u hu
          rw [addr_cell] at h1
          rw [hf]; exact h1
        · cases hx
      · rw [List.getElem?_ofFn] at hz
        split at hz
        · rename_i hj
          cases hz
          exact ⟨D j, by simp [hj], (hg ⟨j, hj⟩).2⟩
        · cases hz
theorem weightsAll_in {P : Program} {e : TypeId} {b : Nat} : ∀ (l : List (DataW H)) (d : DataW H), d ∈ l → (DataW.weightsAll P e l).all (· ≤ b) = true → (d.weights P e).all (· ≤ b) = true
  | [], _, h, _ => by cases h
  | c :: l, d, h, hb => by
    rw [DataW.weightsAll, List.all_append, Bool.and_eq_true] at hb
    rcases List.mem_cons.1 h with rfl | h
    · exact hb.1
    · exact weightsAll_in l d h hb.2
set_option maxRecDepth 100000 in
theorem sizesW : Tryz.prog.bytesOf 50 = 40 ∧ Tryz.prog.cellsOf 3 = 1 ∧ Tryz.prog.cellsOf 23 = 3 := by
  refine ⟨?_, ?_, ?_⟩ <;> kernel_rfl
set_option maxRecDepth 100000 in
theorem itc_of_trodW (n : Nat) (cs : List Value) (y : DataW H × List MemPlace) (h : DataW.trod enc Tryz.prog W base sp held n 50 cs = some y) (hl : cs.length = 4) :
    ∃ x : Itm, cs = itC x ∧ ∀ b, (y.1.weights Tryz.prog 50).all (· ≤ b) = true → x.1.length ≤ b ∧ x.2.2.2.length ≤ b := by
  obtain ⟨c0, c1, c2, c3, rfl⟩ := list4 hl
  obtain ⟨ys, n', _, hy, _, hyl, hf⟩ := DataW.trod_struct Tryz.underlying50 h
  have t1 := hf 0 _ rfl
  have t2 := hf 1 _ rfl
  have t3 := hf 2 _ rfl
  have t4 := hf 3 _ rfl
  change DataW.trod enc Tryz.prog W base sp held n' 9 (([c0, c1, c2, c3].drop 0).take (Tryz.prog.cellsOf 9)) = ys[0]? at t1
  change DataW.trod enc Tryz.prog W base sp held n' 4 (([c0, c1, c2, c3].drop 1).take (Tryz.prog.cellsOf 4)) = ys[1]? at t2
  change DataW.trod enc Tryz.prog W base sp held n' 4 (([c0, c1, c2, c3].drop 2).take (Tryz.prog.cellsOf 4)) = ys[2]? at t3
  change DataW.trod enc Tryz.prog W base sp held n' 9 (([c0, c1, c2, c3].drop 3).take (Tryz.prog.cellsOf 9)) = ys[3]? at t4
  rw [sizesT.2.1] at t1 t4
  rw [sizesT.2.2] at t2 t3
  match ys, hyl with
  | [y0, y1, y2, y3], _ =>
    obtain ⟨s1, e1, x1, _⟩ := DataW.trod_string Tryz.underlying9 (show DataW.trod enc Tryz.prog W base sp held n' 9 [c0] = some y0 from t1)
    obtain ⟨b2, e2, x2⟩ := DataW.trod_bool Tryz.underlying4 (show DataW.trod enc Tryz.prog W base sp held n' 4 [c1] = some y1 from t2)
    obtain ⟨b3, e3, x3⟩ := DataW.trod_bool Tryz.underlying4 (show DataW.trod enc Tryz.prog W base sp held n' 4 [c2] = some y2 from t3)
    obtain ⟨s4, e4, x4, _⟩ := DataW.trod_string Tryz.underlying9 (show DataW.trod enc Tryz.prog W base sp held n' 9 [c3] = some y3 from t4)
    cases e1; cases e2; cases e3; cases e4
    refine ⟨(s1.data.toList, b2, b3, s4.data.toList), by simp, fun b hb => ?_⟩
    rw [hy] at hb
    have hb2 : ((y0.1.weights Tryz.prog 9 ++ (y1.1.weights Tryz.prog 4 ++ (y2.1.weights Tryz.prog 4 ++ (y3.1.weights Tryz.prog 9 ++ [])))).all (· ≤ b)) = true := by
      have h9 := hb
      simp only [DataW.weights, Tryz.underlying50] at h9
      exact h9
    rw [x1, x4] at hb2
    simp only [List.all_append, Bool.and_eq_true] at hb2
    have h1 : ([s1.data.toList.length] : List Nat).all (· ≤ b) = true := hb2.1
    have h4 : ([s4.data.toList.length] : List Nat).all (· ≤ b) = true := hb2.2.2.2.1
    simp only [List.all_cons, Bool.and_eq_true, decide_eq_true_eq] at h1 h4
    exact ⟨h1.1, h4.1⟩
set_option maxRecDepth 100000 in
theorem items_of_val {b0 : Nat} {r : Reach} {v : Value} {d : DataW H} {ps : List MemPlace}
    (hval : Value.okWide Tryz.prog W r b0 24 v) (h : DataW.Trod enc Tryz.prog W base sp held 24 v d ps) :
    ∃ xs : List Itm, ItRow W v xs ∧ ∀ b, (d.weights Tryz.prog 24).all (· ≤ b) = true → xs.length * 40 ≤ b ∧ ∀ x ∈ xs, x.1.length ≤ b ∧ x.2.2.2.length ≤ b := by
  obtain ⟨a0, n0, c0, rfl⟩ := okWide_slice Tryz.underlying24 hval
  obtain ⟨fuel, hf⟩ := h
  obtain ⟨xs, hr, hd⟩ := rowK_of_trodW (K := 4) itC (fun x d => ∀ b, (d.weights Tryz.prog 50).all (· ≤ b) = true → x.1.length ≤ b ∧ x.2.2.2.length ≤ b) (by omega) (fun _ => rfl) Tryz.underlying24 sizesT.1 itc_of_trodW (show DataW.trod enc Tryz.prog W base sp held fuel 24 [.slice a0 n0 c0] = some _ from hf)
  refine ⟨xs, hr, fun b hb => ?_⟩
  rcases hd with rfl | ⟨elems, sp', he, hlen, hg⟩
  · exact ⟨by simp, by simp⟩
  · rw [show d = .slice elems sp' from he] at hb
    simp only [DataW.weights, Tryz.underlying24, List.all_cons, List.all_append, Bool.and_eq_true, decide_eq_true_eq] at hb
    obtain ⟨h1, h2, _⟩ := hb
    rw [sizesW.1] at h1
    refine ⟨by rw [← hlen]; omega, fun x hx => ?_⟩
    obtain ⟨j, hj⟩ := List.getElem?_of_mem hx
    obtain ⟨d1, hd1, hgd⟩ := hg j x hj
    exact hgd b (weightsAll_in elems d1 (List.mem_of_getElem? hd1) h2)
set_option maxRecDepth 100000 in
theorem prm_of_val {b0 : Nat} {r : Reach} {v : Value} {d : DataW H} {ps : List MemPlace}
    (hval : Value.okWide Tryz.prog W r b0 23 v) (h : DataW.Trod enc Tryz.prog W base sp held 23 v d ps) : ∃ x y z : Int, v = .agg #[.int .i64 x, .int .i64 y, .int .i64 z] := by
  obtain ⟨cs, rfl, hsz⟩ := okWide_struct Tryz.underlying23 hval
  obtain ⟨l, rfl⟩ : ∃ l : List Value, cs = l.toArray := ⟨cs.toList, by simp⟩
  obtain ⟨c0, c1, c2, rfl⟩ := list3 (l := l) (by simpa using hsz.trans sizesW.2.2)
  obtain ⟨fuel, hfu⟩ := h
  obtain ⟨ys, n', _, hd, _, hyl, hf⟩ := DataW.trod_struct Tryz.underlying23 hfu
  have t1 := hf 0 _ rfl
  have t2 := hf 1 _ rfl
  have t3 := hf 2 _ rfl
  change DataW.trod enc Tryz.prog W base sp held n' 3 (([c0, c1, c2].drop 0).take (Tryz.prog.cellsOf 3)) = ys[0]? at t1
  change DataW.trod enc Tryz.prog W base sp held n' 3 (([c0, c1, c2].drop 1).take (Tryz.prog.cellsOf 3)) = ys[1]? at t2
  change DataW.trod enc Tryz.prog W base sp held n' 3 (([c0, c1, c2].drop 2).take (Tryz.prog.cellsOf 3)) = ys[2]? at t3
  rw [sizesW.2.1] at t1 t2 t3
  match ys, hyl with
  | [y0, y1, y2], _ =>
    obtain ⟨n0, e0, _⟩ := DataW.trod_int Tryz.underlying3 (show DataW.trod enc Tryz.prog W base sp held n' 3 [c0] = some y0 from t1)
    obtain ⟨n1, e1, _⟩ := DataW.trod_int Tryz.underlying3 (show DataW.trod enc Tryz.prog W base sp held n' 3 [c1] = some y1 from t2)
    obtain ⟨n2, e2, _⟩ := DataW.trod_int Tryz.underlying3 (show DataW.trod enc Tryz.prog W base sp held n' 3 [c2] = some y2 from t3)
    cases e0; cases e1; cases e2
    exact ⟨n0, n1, n2, rfl⟩
end
end Go.Proofs.YtkejdbidomlonaaGreatDoor

namespace Go.Proofs.YtkejdbidomlonaaGreatDoor
open Go.RowKit

theorem et11 : Tryz.prog.globalNamed "errors.errorType" = some 0 := by kernel_rfl
theorem rt11 : (Tryz.prog.cutTypes.find? (·.1 == "internal/reflectlite.rtype")).map (·.2) = some 158 := by kernel_rfl
theorem oneRow11 : ((List.range Tryz.prog.types.size).filter fun t => Tryz.prog.rowNamed t [101, 114, 114, 111, 114]) = [57] := by kernel_rfl
theorem errT_of_laid {W : World} (h : laidMetH Tryz.prog [("errors.errorType", Rows.laid_errors_errorType)] W) : ErrT W := by
  have h' : laidMet Tryz.prog [] W ∧ handlesMet Tryz.prog [("errors.errorType", Rows.laid_errors_errorType)] W := h
  obtain ⟨name, u, ty, e1, e2, e3, e4, e5⟩ := h'.2 _ (List.mem_singleton.2 rfl)
  have en : name = [101, 114, 114, 111, 114] := (Option.some.inj e1).symm
  subst en
  obtain rfl := Option.some.inj (rt11.symm.trans e2)
  have hm : ty ∈ (List.range Tryz.prog.types.size).filter fun t => Tryz.prog.rowNamed t [101, 114, 114, 111, 114] := List.mem_filter.2 ⟨List.mem_range.2 e3, e4⟩
  rw [oneRow11] at hm
  obtain rfl := List.mem_singleton.1 hm
  have hh : typeHandle Tryz.prog 57 = .pointer (some ⟨2, 57, none⟩) := by kernel_rfl
  rw [hh] at e5
  have h6 := World.var?_cell et11 e5 0
  unfold ErrT
  simpa using h6

/-- A world that meets the condition. -/
noncomputable def laidW11 (os : Os) : World :=
  let w0 := World.holding Tryz.prog os ⟨#[], #[], []⟩
  { w0 with heap := w0.heap.modify 0 fun
      | .cells _ t frozen => .cells #[.iface 158 (.agg #[.pointer (some ⟨2, 57, none⟩)])] t frozen
      | o => o }
end Go.Proofs.YtkejdbidomlonaaGreatDoor
