/- FetchFit: a tree that is told is fit. A statement's arguments, opened: slices of elements of some cells. A statement's arguments, opened: objects; how long they can be. A statement's arguments, opened: texts, numbers. The library's variable errors.errorType, out of the row's condition. -/
import Derived.Test.YtkejdbidomlonaaGreatDoorJFTree13
import Derived.Test.YtkejdbidomlonaaGreatDoorJCheck13
import Derived.Test.YtkejdbidomlonaaGreatDoorR10c
import Derived.Test.YtkejdbidomlonaaGreatDoorJPlain
import Derived.SliceStrings
import Derived.OpenShut
import Derived.ProofKit
import Derived.ChangeOld
import Derived.ChangeMaps5
import Derived.Deep.Slices
import Derived.Lib.SmallJoins
import Derived.Deep.SlicePairs
import Derived.Test.YtkejdbidomlonaaGreatDoorRows
import Derived.Test.YtkejdbidomlonaaGreatDoorJPRead11
import Derived.RowKitTokens
import Derived.LaidLaws
import Derived.LaidHandle
import Derived.Stop.Joined
namespace Go.Proofs.YtkejdbidomlonaaGreatDoor
open Go.RowKit

def WidePost (w : World) (e : Ending) (w' : World) : Prop := ∃ b : Bool, e = .returned (.bool b) ∧ Below w.heap.size w w'
set_option maxHeartbeats 4000000 in
set_option maxRecDepth 100000 in
theorem wide13_walk (v : Value) (l : List Snp) (w : World) (hr : SnpRow w v l) (hcnt : l.length ≤ 1100000) (hraw : ∀ x ∈ l, x.2.length ≤ 1000000) :
    Calls Tryz.prog 15 #[v] w (WidePost w) := by
  have HRL := Lib.hid hraw
  obtain ⟨a, c, rfl, hc, hm, hx⟩ := hr
  have HX := Lib.hid hx
  clear hx hraw
  go_enter Tryz.func15, Tryz.ntmps15
  go_wp2
  go_loopw [7] (fun i wr => ∃ k : Nat, k ≤ l.length ∧ i = .int .i64 k ∧ Below w.heap.size w wr) (fun i _ => l.length - (intOf i).toNat)
  case atStart => exact ⟨0, Nat.zero_le _, rfl, Below.refl _ _⟩
  case round =>
    obtain ⟨k, hk, rfl, hB⟩ := hrel
    have HB := Lib.hid hB
    by_cases h2 : k < l.length
    · have h2' : (k : Int) < (l.length : Int) := by omega
      have hx := HX.out
      rcases hx with hx | ⟨b, o, rfl, hx⟩
      · exfalso; rw [hx] at h2; simp at h2
      obtain ⟨hx1, hx2⟩ := snp_cells hx h2
      have hc1 := cell_below hB hx1
      have hc2 := cell_below hB hx2
      have hql := HRL.out l[k] (by simp)
      clear hx hx1 hx2 hB
      generalize l[k] = y at *
      obtain ⟨p, q⟩ := y
      simp only at hql
      by_cases h3 : 4200 < q.length
      · have h3' : (4200 : Int) < (q.length : Int) := by omega
        go_wp2
        go_ret
        exact ⟨true, rfl, HB.out.alloc HB.out.size _⟩
      have h3' : ¬ (4200 : Int) < (q.length : Int) := by omega
      clear h3
      go_wp2
      go_roundw
      case rel => exact ⟨k + 1, by omega, by go_num, HB.out.alloc HB.out.size _⟩
      case measure => simp [intOf]; omega
    · have h2' : ¬ (k : Int) < (l.length : Int) := by omega
      go_wp2
      go_ret
      exact ⟨false, rfl, hB⟩

theorem told_paths {l : List Itm} (h : FitT l) : l.length ≤ 60 ∧ sizeT l ≤ 65536 ∧ ∀ x ∈ l, x.1.length ≤ 1100000 := by
  obtain ⟨h1, -, h3, h4⟩ := h
  refine ⟨by simpa using h1, h4, fun x hx => ?_⟩
  have h5 := h3 x hx
  unfold okT at h5
  simp only [Bool.and_eq_true] at h5
  have h6 := at_len (d := x.1) (.inr (by simp_all))
  unfold atD at h6
  split at h6
  · rename_i h7; rw [h7]; simp
  · rw [List.length_append] at h6; simp at h6; omega

set_option maxHeartbeats 8000000 in
set_option maxRecDepth 100000 in
theorem ffit13_walk (ov : Value) (o : List Snp) (key : List UInt8) (w : World) (hT : ErrT w) (ho : SnpRow w ov o) (hob : o.length ≤ 140737488355328) (hor : ∀ x ∈ o, x.2.length ≤ 140737488355328) :
    Calls Tryz.prog 4 #[ov, S key] w fun e w' => e = .returned (.bool true) ∧ Below w.heap.size w w' := by
  have HO := Lib.hid ho
  have HT := Lib.hid hT
  have C0 := small13_walk ov o w ho hob hor
  have HTF := Lib.hid (fun (h : (toldC o key).2 = 0) => show FitT (toldC o key).1 by
    unfold toldC at h ⊢
    split at h
    · rename_i h1
      rw [if_pos h1]
      exact told_fit h1
    · rename_i h1
      exact absurd h h1)
  have HTN := Lib.hid (fun (h : (toldC o key).2 ≠ 0) => show (toldC o key).1 = [] by
    unfold toldC at h ⊢
    split at h
    · exact absurd rfl h
    · rename_i h1
      rw [if_neg h1])
  have CT := fun W (h : Below w.heap.size w W) (hu) (hl) (hr) => tree13_walk ov o key W (HO.out.below h) (HT.out.below h) hu hl hr
  have HCT := Lib.hid CT
  clear ho hT hor CT
  generalize toldC o key = tc at *
  go_enter Tryz.func4, Tryz.ntmps4
  go_upto_region 1 with fail
  go_cut [13] from 7 (fun t w' => ∃ w1 q, w1 = w' ∧ t = .bool q ∧ (q = false → SmallO o) ∧ Below w.heap.size w w1)
  case first =>
    go_wp2_with fail
    refine C0.mono ?_
    rintro e w2 ⟨b0, rfl, hsm, hb2⟩
    have HSM := Lib.hid hsm
    clear C0 hsm
    cases b0 with
    | false =>
      go_wp2
      go_meet
      case rel => exact ⟨_, true, rfl, rfl, (fun h => by cases h), hb2⟩
    | true =>
      have hs := HSM.out rfl
      have CW := wide13_walk ov o w2 (HO.out.below hb2) (by have := hs.len; omega) (fun x hx => by have := hs.raw x hx; omega)
      have HS := Lib.hid hs
      have HB2 := Lib.hid hb2
      clear hs hb2
      go_wp2_with fail
      refine CW.mono ?_
      rintro e w3 ⟨q, rfl, hb3⟩
      have HB3 := Lib.hid (below_chain HB2.out hb3 HB2.out.size)
      clear CW hb3
      go_wp2
      go_meet
      case rel => exact ⟨_, q, rfl, rfl, (fun _ => HS.out), HB3.out⟩
  case rest =>
    obtain ⟨w1, b0, rfl, rfl, hsm, hB1⟩ := hcut
    cases b0 with
    | true => (have CA := awake13_walk w1 (HT.out.below hB1); go_wp2_with fail; refine CA.mono ?_; rintro e wy ⟨rfl, hby⟩; have hBy := below_chain hB1 hby (Below.size hB1); go_wp2; go_ret; exact ⟨rfl, hBy⟩)
    | false =>
    have hs := hsm rfl
    have C1 := HCT.out w1 hB1 (fit5_up12 hs.fit) (by have := hs.len; omega) (fun x hx => by have := hs.raw x hx; omega)
    have HB1 := Lib.hid hB1
    clear hsm hs hB1
    go_wp2_with fail
    refine C1.mono ?_
    rintro e w2 ⟨mv, rfl, hm, hb2⟩
    have HB2 := Lib.hid (below_chain HB1.out hb2 HB1.out.size)
    have HM := Lib.hid hm
    obtain ⟨ma, mc, rfl⟩ := row_slice hm
    clear C1 hm hb2
    by_cases h0 : tc.2 = 0
    · have h0' : (tc.2 == 0) = true := by rw [beq_iff_eq]; exact h0
      have h0b : (tc.2 != 0) = false := by rw [bne_eq_false_iff_eq]; exact h0
      have hf := HTF.out h0
      obtain ⟨h5, h6, h7⟩ := told_paths hf
      have CF := r10fit_walk (.slice ma tc.1.length mc) tc.1 w2 HM.out (by omega) (by omega) h7
      rw [fitTB_iff.2 hf] at CF
      clear hf h6 h7 h0
      go_wp2_with fail
      refine CF.mono ?_
      rintro e w3 ⟨rfl, hb3⟩
      have HB3 := Lib.hid (below_chain HB2.out hb3 HB2.out.size)
      have CA := awake13_walk w3 (HT.out.below HB3.out)
      clear CF hb3
      go_wp2_with fail
      refine CA.mono ?_
      rintro e wy ⟨rfl, hby⟩
      have hBy := below_chain HB3.out hby (Below.size HB3.out)
      go_wp2
      go_ret
      exact ⟨rfl, hBy⟩
    · have h0' : (tc.2 == 0) = false := by rw [beq_eq_false_iff_ne]; exact h0
      have h0b : (tc.2 != 0) = true := by rw [bne_iff_ne]; exact h0
      have hl0 : tc.1.length = 0 := by rw [HTN.out h0]; rfl
      rw [hl0]
      have CA := awake13_walk w2 (HT.out.below HB2.out)
      clear h0
      go_wp2_with fail
      refine CA.mono ?_
      rintro e wy ⟨rfl, hby⟩
      have hBy := below_chain HB2.out hby (Below.size HB2.out)
      go_wp2
      go_ret
      exact ⟨rfl, hBy⟩
end Go.Proofs.YtkejdbidomlonaaGreatDoor

namespace Go.Proofs.YtkejdbidomlonaaGreatDoor
open Go.ChangeShapes Go.WideShapes Go.ChangeAt Go.RowKit Go.Deep Go.Joins

theorem S_toList (s : ByteArray) : S s.data.toList = .string s := by cases s; simp
theorem spot_none {W : World} {a : Addr} {v : Value} (h : W.cell? a = some v) : a.spot = none := by
  simp only [World.cell?] at h
  split at h
  · split at h
    · cases h
    · cases hh : a.spot <;> simp_all
  · cases h
theorem addr_cell {b o i K j : Nat} : (((⟨b, o, none⟩ : Addr).add (i * K)).add j) = ⟨b, o + i * K + j, none⟩ := by rw [Addr.add_lit, Addr.add_lit]

section
variable {H : Type} {enc : TypeId × Value → H} {P : Program} {W : World} {base : Nat} {sp : Nat → Bool} {held : Bool}
/-- A slice of elements of K cells, each of which reads as f of something. -/
theorem rowK_of_trod {α : Type} (f : α → List Value) (Good : α → Prop) {K : Nat} (hK : 0 < K) (hf : ∀ x, (f x).length = K) {t e : TypeId} {fuel : Nat} {v : Value} {x : DataW H × List MemPlace}
    (ht : P.underlying t = some (.slice e)) (hc : P.cellsOf e = K) (he : ∀ n cs y, DataW.trod enc P W base sp held n e cs = some y → cs.length = K → ∃ z : α, cs = f z ∧ Good z)
    (h : DataW.trod enc P W base sp held fuel t [v] = some x) : ∃ xs, Row f W v xs ∧ ∀ z ∈ xs, Good z := by
  rcases open_slice ht h with ⟨h1, _⟩ | ⟨a, len, cap, m, n, D, Pl, h1, _, hl, hm, hmm, _, hi⟩
  · obtain rfl : v = .slice none 0 0 := by simpa using h1
    exact ⟨[], Row.nil _ W, by simp⟩
  · obtain rfl : v = .slice (some a) len cap := by simpa using h1
    have hle : len ≤ m := by rw [hmm]; split <;> omega
    have hs : ∀ i : Fin len, ∃ z : α, (∀ j u, (f z)[j]? = some u → W.cell? ((a.add (i.val * K)).add j) = some u) ∧ Good z := by
      intro i
      obtain ⟨cs', hcs, htr⟩ := hi i.val (by have := i.isLt; omega)
      rw [hc] at hcs
      obtain ⟨_, hcl, hat⟩ := World.cells?_some hcs
      obtain ⟨z, rfl, hg⟩ := he _ _ _ htr hcl
      refine ⟨z, fun j u hu => ?_, hg⟩
      have hj := (List.getElem?_eq_some_iff.1 hu).1
      have h2 := hat j (by rw [hf] at hj; exact hj)
      rw [h2]
      simpa using hu
    obtain ⟨g, hg⟩ := Classical.axiomOfChoice hs
    by_cases h0 : len = 0
    · subst h0
      exact ⟨[], ⟨some a, cap, rfl, hl, hm, .inl rfl⟩, by simp⟩
    · refine ⟨List.ofFn g, ⟨some a, cap, by simp, by simpa using hl, hm, .inr ?_⟩, fun z hz => ?_⟩
      · have hlen : 0 < len := by omega
        obtain ⟨u, hu⟩ : ∃ u, (f (g ⟨0, hlen⟩))[0]? = some u := ⟨(f (g ⟨0, hlen⟩))[0]'(by rw [hf]; exact hK), List.getElem?_eq_getElem _⟩
        have hz := spot_none ((hg ⟨0, by omega⟩).1 0 u hu)
        obtain ⟨b, o, s⟩ := a
        have hs0 : s = none := by simpa [Addr.add] using hz
        subst hs0
        refine ⟨b, o, rfl, fun j x hx i u hu => ?_⟩
        rw [List.getElem?_ofFn] at hx
        split at hx
        · rename_i hj
          cases hx
          have h1 := (hg ⟨j, hj⟩).1 i u hu
          rw [addr_cell] at h1
          rw [hf]; exact h1
        · cases hx
      · obtain ⟨i, hi⟩ := List.getElem?_of_mem hz
        rw [List.getElem?_ofFn] at hi
        split at hi
        · cases hi; exact (hg _).2
        · cases hi
end

theorem list2 {α : Type} {l : List α} (h : l.length = 2) : ∃ a b, l = [a, b] := by
  match l, h with
  | [a, b], _ => exact ⟨a, b, rfl⟩
theorem list3 {α : Type} {l : List α} (h : l.length = 3) : ∃ a b c, l = [a, b, c] := by
  match l, h with
  | [a, b, c], _ => exact ⟨a, b, c, rfl⟩

theorem list4 {α : Type} {l : List α} (h : l.length = 4) : ∃ a b c d, l = [a, b, c, d] := by
  match l, h with
  | [a, b, c, d], _ => exact ⟨a, b, c, d, rfl⟩
end Go.Proofs.YtkejdbidomlonaaGreatDoor

namespace Go.Proofs.YtkejdbidomlonaaGreatDoor
open Go.ChangeShapes Go.WideShapes Go.ChangeAt Go.RowKit Go.Deep Go.Joins

set_option maxRecDepth 100000 in
theorem sizesO : Tryz.prog.cellsOf 27 = 2 ∧ Tryz.prog.cellsOf 9 = 1 ∧ Tryz.prog.bytesOf 27 = 32 := by
  refine ⟨?_, ?_, ?_⟩ <;> kernel_rfl
theorem weightsAll_mem {H : Type} {P : Program} {e : TypeId} {b : Nat} : ∀ (l : List (DataW H)) (d : DataW H), d ∈ l → (DataW.weightsAll P e l).all (· ≤ b) = true → (d.weights P e).all (· ≤ b) = true
  | [], _, h, _ => by cases h
  | c :: l, d, h, hb => by
    rw [DataW.weightsAll, List.all_append, Bool.and_eq_true] at hb
    rcases List.mem_cons.1 h with rfl | h
    · exact hb.1
    · exact weightsAll_mem l d h hb.2
section
variable {H : Type} {enc : TypeId × Value → H} {W : World} {base : Nat} {sp : Nat → Bool} {held : Bool}
set_option maxRecDepth 100000 in
theorem objs_of_trod {fuel : Nat} {v : Value} {x : DataW H × List MemPlace} (h : DataW.trod enc Tryz.prog W base sp held fuel 30 [v] = some x) :
    ∃ xs : List Snp, SnpRow W v xs ∧ ∀ b, (x.1.weights Tryz.prog 30).all (· ≤ b) = true → xs.length * 32 ≤ b ∧ ∀ z ∈ xs, z.2.length ≤ b := by
  rcases open_slice_pairs Tryz.underlying30 Tryz.underlying27 sizesO.1 rfl rfl sizesO.2.1 sizesO.2.1 h with ⟨h1, _⟩ | ⟨a, len, cap, m, n, V0, V1, D0, D1, P0, P1, h1, _, hl, hm, hmm, hx, hi⟩
  · obtain rfl : v = .slice none 0 0 := by simpa using h1
    exact ⟨[], Row.nil _ W, fun b _ => by simp⟩
  · obtain rfl : v = .slice (some a) len cap := by simpa using h1
    have hle : len ≤ m := by rw [hmm]; split <;> omega
    have hs : ∀ i : Fin len, ∃ z : Snp, W.cell? (a.add (i.val * 2)) = some (S z.1) ∧ W.cell? (a.add (i.val * 2 + 1)) = some (S z.2) ∧ D1 i.val = .lit (.string z.2) := by
      intro i
      obtain ⟨q1, q2, q3, q4⟩ := hi i.val (by have := i.isLt; omega)
      obtain ⟨s1, e1, _⟩ := DataW.trod_string Tryz.underlying9 q3
      obtain ⟨s2, e2, e3⟩ := DataW.trod_string Tryz.underlying9 q4
      obtain ⟨e3, -⟩ := e3
      injection e1 with e1
      injection e2 with e2
      injection e3 with e3
      exact ⟨(s1.data.toList, s2.data.toList), by rw [q1, e1, S_toList], by rw [q2, e2, S_toList], e3⟩
    obtain ⟨g, hg⟩ := Classical.axiomOfChoice hs
    refine ⟨List.ofFn g, ?_, fun b hb => ?_⟩
    · by_cases h0 : len = 0
      · subst h0
        exact ⟨some a, cap, rfl, hl, hm, .inl rfl⟩
      · refine ⟨some a, cap, by simp, by simpa using hl, hm, .inr ?_⟩
        have hz := spot_none (hg ⟨0, by omega⟩).1
        obtain ⟨b, o, s⟩ := a
        have hs0 : s = none := by simpa [Addr.add] using hz
        subst hs0
        refine ⟨b, o, rfl, fun j x hx i u hu => ?_⟩
        rw [List.getElem?_ofFn] at hx
        split at hx
        · rename_i hj
          cases hx
          obtain ⟨h1, h2, _⟩ := hg ⟨j, hj⟩
          simp only [Addr.add_lit] at h1 h2
          match i, hu with
          | 0, hu => cases hu; exact h1
          | 1, hu => cases hu; exact h2
        · cases hx
    · rw [hx] at hb
      simp only [DataW.weights, Tryz.underlying30, List.all_cons, List.all_append, Bool.and_eq_true, decide_eq_true_eq] at hb
      obtain ⟨h1, h2, _⟩ := hb
      rw [sizesO.2.2] at h1
      refine ⟨by simp at h1 ⊢; omega, fun z hz => ?_⟩
      obtain ⟨i, hi2⟩ := List.getElem?_of_mem hz
      rw [List.getElem?_ofFn] at hi2
      split at hi2
      · rename_i hj
        cases hi2
        have h3 := weightsAll_mem (b := b) _ (DataW.agg [D0 i, D1 i]) (List.mem_map.2 ⟨i, List.mem_range.2 hj, rfl⟩) h2
        have h4 := (hg ⟨i, hj⟩).2.2
        simp only at h4
        rw [h4] at h3
        simp only [DataW.weights, Tryz.underlying27] at h3
        have h5 : ((D0 i).weights Tryz.prog 9 ++ ([(g ⟨i, hj⟩).2.length] ++ [])).all (· ≤ b) = true := h3
        simp only [List.all_append, List.all_cons, Bool.and_eq_true, decide_eq_true_eq] at h5
        exact h5.2.1.1
      · cases hi2
set_option maxRecDepth 100000 in
theorem objs_of_val {b0 : Nat} {r : Reach} {v : Value} {d : DataW H} {ps : List MemPlace} (hval : Value.okWide Tryz.prog W r b0 30 v) (h : DataW.Trod enc Tryz.prog W base sp held 30 v d ps) :
    ∃ xs : List Snp, SnpRow W v xs ∧ ∀ b, (d.weights Tryz.prog 30).all (· ≤ b) = true → xs.length * 32 ≤ b ∧ ∀ z ∈ xs, z.2.length ≤ b := by
  obtain ⟨a0, n0, c0, rfl⟩ := okWide_slice Tryz.underlying30 hval
  obtain ⟨fuel, hfu⟩ := h
  exact objs_of_trod (by simpa [Value.cells] using hfu)
end
set_option maxRecDepth 100000 in
theorem u8_of_valO {W : World} {r : Reach} {b0 : Nat} {v : Value} (h : Value.okWide Tryz.prog W r b0 5 v) : ∃ n : Nat, v = .int .u8 n ∧ n < 256 := by
  obtain ⟨n, rfl⟩ := okWide_int Tryz.underlying5 h
  have h2 := h
  simp [Value.okWide, Tryz.underlying5, Cell.okWide, Cell.ok, IntKind.has, IntKind.min, IntKind.max, IntKind.bits, IntKind.signed] at h2
  refine ⟨n.toNat, ?_, ?_⟩
  · congr 1; omega
  · omega
end Go.Proofs.YtkejdbidomlonaaGreatDoor

namespace Go.Proofs.YtkejdbidomlonaaGreatDoor
open Go.ChangeShapes Go.WideShapes Go.ChangeAt Go.RowKit

section
variable {H : Type} {enc : TypeId × Value → H} {W : World} {base : Nat} {sp : Nat → Bool} {held : Bool}
theorem sizesL : Tryz.prog.cellsOf 9 = 1 ∧ Tryz.prog.bytesOf 9 = 16 := by
  refine ⟨by kernel_rfl, by kernel_rfl⟩

set_option maxRecDepth 100000 in
theorem row_of_trodG {fuel : Nat} {c0 : Value} {y : DataW H × List MemPlace} (hf : DataW.trod enc Tryz.prog W base sp held fuel 38 [c0] = some y) :
    ∃ xs, StrRow W c0 xs ∧ ∀ b, (y.1.weights Tryz.prog 38).all (· ≤ b) = true → xs.length * 16 ≤ b := by
  rcases open_strings Tryz.underlying38 Tryz.underlying9 (by kernel_rfl) hf with ⟨hc, hy⟩ | ⟨a, len, cap, ss, hc, _, hl, hm, hlen, hy, hcell, _⟩
  · simp at hc
    subst hc
    exact ⟨[], StrRow.nil W, fun b _ => by simp⟩
  · simp at hc
    subst hc
    have hle : len ≤ ss.length := by rw [hlen]; split <;> omega
    have hxl : ((ss.take len).map (·.data.toList)).length = len := by simp; omega
    refine ⟨(ss.take len).map (·.data.toList), ⟨some a, cap, by rw [hxl], by rw [hxl]; exact hl, hm, ?_⟩, fun b hb => ?_⟩
    · by_cases h0 : len = 0
      · exact .inl (List.eq_nil_of_length_eq_zero (by rw [hxl, h0]))
      · right
        have hz := hcell 0 (by omega)
        have hsp : a.spot = none := by
          simp only [Addr.add, if_true, World.cell?] at hz
          split at hz
          · split at hz
            · cases hz
            · cases hh : a.spot <;> simp_all
          · cases hz
        obtain ⟨b, o, s⟩ := a
        simp only at hsp
        subst hsp
        refine ⟨b, o, rfl, fun j x hx => ?_⟩
        rw [List.getElem?_map, Option.map_eq_some_iff] at hx
        obtain ⟨s, hs, rfl⟩ := hx
        rw [List.getElem?_take] at hs
        split at hs
        · have hj := (List.getElem?_eq_some_iff.1 hs).1
          have h1 := hcell j hj
          rw [Addr.add_lit] at h1
          rw [h1, List.getD_eq_getElem?_getD, hs]
          simp
        · cases hs
    · rw [hy] at hb
      simp only [DataW.weights, Tryz.underlying38, List.all_cons, Bool.and_eq_true, decide_eq_true_eq] at hb
      have h1 := hb.1
      rw [sizesL.2] at h1
      have h2 : (strs (H := H) (ss.take len)).length = len := by simp [strs]; omega
      rw [h2] at h1
      rw [hxl]
      omega
set_option maxRecDepth 100000 in
theorem strs_of_val {b0 : Nat} {r : Reach} {v : Value} {d : DataW H} {ps : List MemPlace} (hval : Value.okWide Tryz.prog W r b0 38 v) (h : DataW.Trod enc Tryz.prog W base sp held 38 v d ps) :
    ∃ xs, StrRow W v xs ∧ ∀ b, (d.weights Tryz.prog 38).all (· ≤ b) = true → xs.length * 16 ≤ b := by
  obtain ⟨a0, n0, c0, rfl⟩ := okWide_slice Tryz.underlying38 hval
  obtain ⟨fuel, hfu⟩ := h
  exact row_of_trodG (by simpa [Value.cells] using hfu)
end
end Go.Proofs.YtkejdbidomlonaaGreatDoor

namespace Go.Proofs.YtkejdbidomlonaaGreatDoor
open Go.RowKit

theorem et11 : Tryz.prog.globalNamed "errors.errorType" = some 0 := by kernel_rfl
theorem rt11 : (Tryz.prog.cutTypes.find? (·.1 == "internal/reflectlite.rtype")).map (·.2) = some 158 := by kernel_rfl
theorem oneRow11 : ((List.range Tryz.prog.types.size).filter fun t => Tryz.prog.rowNamed t [101, 114, 114, 111, 114]) = [57] := by kernel_rfl
theorem errT_of_laid {W : World} (h : laidMetH Tryz.prog [("errors.errorType", Rows.laid_errors_errorType)] W) : ErrT W := by
  have h' : laidMet Tryz.prog [] W ∧ handlesMet Tryz.prog [("errors.errorType", Rows.laid_errors_errorType)] W := h
  obtain ⟨name, u, ty, e1, e2, e3, e4, e5⟩ := h'.2 _ (List.mem_singleton.2 rfl)
  have en : name = [101, 114, 114, 111, 114] := (Option.some.inj e1).symm
  subst en
  obtain rfl := Option.some.inj (rt11.symm.trans e2)
  have hm : ty ∈ (List.range Tryz.prog.types.size).filter fun t => Tryz.prog.rowNamed t [101, 114, 114, 111, 114] := List.mem_filter.2 ⟨List.mem_range.2 e3, e4⟩
  rw [oneRow11] at hm
  obtain rfl := List.mem_singleton.1 hm
  have hh : typeHandle Tryz.prog 57 = .pointer (some ⟨2, 57, none⟩) := by kernel_rfl
  rw [hh] at e5
  have h6 := World.var?_cell et11 e5 0
  unfold ErrT
  simpa using h6

/-- A world that meets the condition. -/
noncomputable def laidW11 (os : Os) : World :=
  let w0 := World.holding Tryz.prog os ⟨#[], #[], []⟩
  { w0 with heap := w0.heap.modify 0 fun
      | .cells _ t frozen => .cells #[.iface 158 (.agg #[.pointer (some ⟨2, 57, none⟩)])] t frozen
      | o => o }
end Go.Proofs.YtkejdbidomlonaaGreatDoor
