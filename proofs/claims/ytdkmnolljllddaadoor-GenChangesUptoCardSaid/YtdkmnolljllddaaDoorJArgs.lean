/- A statement's arguments, opened: slices of elements of some cells. A statement's arguments, opened: trees' items. Statements' arguments, opened: numbers; the library's table of white space. Trees' items among the arguments, where what is read is of a bounded bulk. -/
import Derived.Test.YtdkmnolljllddaaDoorCellsB
import Derived.SliceStrings
import Derived.OpenShut
import Derived.ProofKit
import Derived.ChangeOld
import Derived.ChangeMaps5
import Derived.Deep.Slices
import Derived.Lib.SmallJoins
import Derived.Test.YtdkmnolljllddaaDoorItB
import Derived.Test.YtdkmnolljllddaaDoorRows
import Derived.Test.YtdkmnolljllddaaDoorPTree30
import Derived.Stop.LaidErr
namespace Go.Proofs.YtdkmnolljllddaaDoor
open Go.ChangeShapes Go.WideShapes Go.ChangeAt Go.RowKit Go.Deep Go.Joins

theorem S_toList (s : ByteArray) : S s.data.toList = .string s := by cases s; simp
theorem spot_none {W : World} {a : Addr} {v : Value} (h : W.cell? a = some v) : a.spot = none := by
  simp only [World.cell?] at h
  split at h
  · split at h
    · cases h
    · cases hh : a.spot <;> simp_all
  · cases h
theorem addr_cell {b o i K j : Nat} : (((⟨b, o, none⟩ : Addr).add (i * K)).add j) = ⟨b, o + i * K + j, none⟩ := by rw [Addr.add_lit, Addr.add_lit]

section
variable {H : Type} {enc : TypeId × Value → H} {P : Program} {W : World} {base : Nat} {sp : Nat → Bool} {held : Bool}
/-- A slice of elements of K cells, each of which reads as f of something. -/
theorem rowK_of_trod {α : Type} (f : α → List Value) (Good : α → Prop) {K : Nat} (hK : 0 < K) (hf : ∀ x, (f x).length = K) {t e : TypeId} {fuel : Nat} {v : Value} {x : DataW H × List MemPlace}
    (ht : P.underlying t = some (.slice e)) (hc : P.cellsOf e = K) (he : ∀ n cs y, DataW.trod enc P W base sp held n e cs = some y → cs.length = K → ∃ z : α, cs = f z ∧ Good z)
    (h : DataW.trod enc P W base sp held fuel t [v] = some x) : ∃ xs, Row f W v xs ∧ ∀ z ∈ xs, Good z := by
  rcases open_slice ht h with ⟨h1, _⟩ | ⟨a, len, cap, m, n, D, Pl, h1, _, hl, hm, hmm, _, hi⟩
  · obtain rfl : v = .slice none 0 0 := by simpa using h1
    exact ⟨[], Row.nil _ W, by simp⟩
  · obtain rfl : v = .slice (some a) len cap := by simpa using h1
    have hle : len ≤ m := by rw [hmm]; split <;> omega
    have hs : ∀ i : Fin len, ∃ z : α, (∀ j u, (f z)[j]? = some u → W.cell? ((a.add (i.val * K)).add j) = some u) ∧ Good z := by
      intro i
      obtain ⟨cs', hcs, htr⟩ := hi i.val (by have := i.isLt; omega)
      rw [hc] at hcs
      obtain ⟨_, hcl, hat⟩ := World.cells?_some hcs
      obtain ⟨z, rfl, hg⟩ := he _ _ _ htr hcl
      refine ⟨z, fun j u hu => ?_, hg⟩
      have hj := (List.getElem?_eq_some_iff.1 hu).1
      have h2 := hat j (by rw [hf] at hj; exact hj)
      rw [h2]
      simpa using hu
    obtain ⟨g, hg⟩ := Classical.axiomOfChoice hs
    by_cases h0 : len = 0
    · subst h0
      exact ⟨[], ⟨some a, cap, rfl, hl, hm, .inl rfl⟩, by simp⟩
    · refine ⟨List.ofFn g, ⟨some a, cap, by simp, by simpa using hl, hm, .inr ?_⟩, fun z hz => ?_⟩
      · have hlen : 0 < len := by omega
        obtain ⟨u, hu⟩ : ∃ u, (f (g ⟨0, hlen⟩))[0]? = some u := ⟨(f (g ⟨0, hlen⟩))[0]'(by rw [hf]; exact hK), List.getElem?_eq_getElem _⟩
        have hz := spot_none ((hg ⟨0, by omega⟩).1 0 u hu)
        obtain ⟨b, o, s⟩ := a
        have hs0 : s = none := by simpa [Addr.add] using hz
        subst hs0
        refine ⟨b, o, rfl, fun j x hx i u hu => ?_⟩
        rw [List.getElem?_ofFn] at hx
        split at hx
        · rename_i hj
          cases hx
          have h1 := (hg ⟨j, hj⟩).1 i u hu
          rw [addr_cell] at h1
          rw [hf]; exact h1
        · cases hx
      · obtain ⟨i, hi⟩ := List.getElem?_of_mem hz
        rw [List.getElem?_ofFn] at hi
        split at hi
        · cases hi; exact (hg _).2
        · cases hi
end

theorem list2 {α : Type} {l : List α} (h : l.length = 2) : ∃ a b, l = [a, b] := by
  match l, h with
  | [a, b], _ => exact ⟨a, b, rfl⟩
theorem list3 {α : Type} {l : List α} (h : l.length = 3) : ∃ a b c, l = [a, b, c] := by
  match l, h with
  | [a, b, c], _ => exact ⟨a, b, c, rfl⟩

theorem list4 {α : Type} {l : List α} (h : l.length = 4) : ∃ a b c d, l = [a, b, c, d] := by
  match l, h with
  | [a, b, c, d], _ => exact ⟨a, b, c, d, rfl⟩
end Go.Proofs.YtdkmnolljllddaaDoor

namespace Go.Proofs.YtdkmnolljllddaaDoor
open Go.ChangeShapes Go.WideShapes Go.ChangeAt Go.RowKit Go.Deep Go.Joins

set_option maxRecDepth 100000 in
theorem sizesT : Tryd.prog.cellsOf 32 = 4 ∧ Tryd.prog.cellsOf 9 = 1 ∧ Tryd.prog.cellsOf 4 = 1 := by
  refine ⟨?_, ?_, ?_⟩ <;> kernel_rfl
section
variable {H : Type} {enc : TypeId × Value → H} {W : World} {base : Nat} {sp : Nat → Bool} {held : Bool}
set_option maxRecDepth 100000 in
theorem itc_of_trod (n : Nat) (cs : List Value) (y : DataW H × List MemPlace) (h : DataW.trod enc Tryd.prog W base sp held n 32 cs = some y) (hl : cs.length = 4) : ∃ x : Itm, cs = itC x ∧ True := by
  obtain ⟨c0, c1, c2, c3, rfl⟩ := list4 hl
  obtain ⟨ys, n', _, _, _, hyl, hf⟩ := DataW.trod_struct Tryd.underlying32 h
  have t1 := hf 0 _ rfl
  have t2 := hf 1 _ rfl
  have t3 := hf 2 _ rfl
  have t4 := hf 3 _ rfl
  change DataW.trod enc Tryd.prog W base sp held n' 9 (([c0, c1, c2, c3].drop 0).take (Tryd.prog.cellsOf 9)) = ys[0]? at t1
  change DataW.trod enc Tryd.prog W base sp held n' 4 (([c0, c1, c2, c3].drop 1).take (Tryd.prog.cellsOf 4)) = ys[1]? at t2
  change DataW.trod enc Tryd.prog W base sp held n' 4 (([c0, c1, c2, c3].drop 2).take (Tryd.prog.cellsOf 4)) = ys[2]? at t3
  change DataW.trod enc Tryd.prog W base sp held n' 9 (([c0, c1, c2, c3].drop 3).take (Tryd.prog.cellsOf 9)) = ys[3]? at t4
  rw [sizesT.2.1] at t1 t4
  rw [sizesT.2.2] at t2 t3
  match ys, hyl with
  | [y0, y1, y2, y3], _ =>
    obtain ⟨s1, e1, _⟩ := DataW.trod_string Tryd.underlying9 (show DataW.trod enc Tryd.prog W base sp held n' 9 [c0] = some y0 from t1)
    obtain ⟨b2, e2, _⟩ := DataW.trod_bool Tryd.underlying4 (show DataW.trod enc Tryd.prog W base sp held n' 4 [c1] = some y1 from t2)
    obtain ⟨b3, e3, _⟩ := DataW.trod_bool Tryd.underlying4 (show DataW.trod enc Tryd.prog W base sp held n' 4 [c2] = some y2 from t3)
    obtain ⟨s4, e4, _⟩ := DataW.trod_string Tryd.underlying9 (show DataW.trod enc Tryd.prog W base sp held n' 9 [c3] = some y3 from t4)
    cases e1; cases e2; cases e3; cases e4
    exact ⟨(s1.data.toList, b2, b3, s4.data.toList), by simp [S_toList], trivial⟩
set_option maxRecDepth 100000 in
theorem item_of_trod {b0 : Nat} {r : Reach} {v : Value} {d : DataW H} {ps : List MemPlace}
    (hval : Value.okWide Tryd.prog W r b0 32 v) (h : DataW.Trod enc Tryd.prog W base sp held 32 v d ps) : ∃ x : Itm, v = ItV x := by
  obtain ⟨cs, rfl, hsz⟩ := okWide_struct Tryd.underlying32 hval
  obtain ⟨l, rfl⟩ : ∃ l : List Value, cs = l.toArray := ⟨cs.toList, by simp⟩
  obtain ⟨fuel, hfu⟩ := h
  obtain ⟨x, e, -⟩ := itc_of_trod fuel l (d, ps) (by simpa [Value.cells] using hfu) (by simpa using hsz.trans sizesT.1)
  exact ⟨x, by rw [e]⟩
set_option maxRecDepth 100000 in
theorem items_of_trod {b0 : Nat} {r : Reach} {v : Value} {d : DataW H} {ps : List MemPlace}
    (hval : Value.okWide Tryd.prog W r b0 22 v) (h : DataW.Trod enc Tryd.prog W base sp held 22 v d ps) : ∃ xs : List Itm, ItRow W v xs := by
  obtain ⟨a0, n0, c0, rfl⟩ := okWide_slice Tryd.underlying22 hval
  obtain ⟨fuel, hf⟩ := h
  obtain ⟨xs, hr, _⟩ := rowK_of_trod (K := 4) itC (fun _ => True) (by omega) (fun _ => rfl) Tryd.underlying22 sizesT.1 itc_of_trod (show DataW.trod enc Tryd.prog W base sp held fuel 22 [.slice a0 n0 c0] = some _ from hf)
  exact ⟨xs, hr⟩
end
end Go.Proofs.YtdkmnolljllddaaDoor

namespace Go.Proofs.YtdkmnolljllddaaDoor
open Go.ChangeShapes Go.WideShapes Go.ChangeAt Go.RowKit

set_option maxRecDepth 100000 in
theorem u64_of_val {W : World} {r : Reach} {b0 : Nat} {v : Value} (h : Value.okWide Tryd.prog W r b0 36 v) : ∃ n : Int, v = .int .u64 n ∧ 0 ≤ n ∧ n < 18446744073709551616 := by
  obtain ⟨n, rfl⟩ := okWide_int Tryd.underlying36 h
  have h2 := h
  simp [Value.okWide, Tryd.underlying36, Cell.okWide, Cell.ok, IntKind.has, IntKind.min, IntKind.max, IntKind.bits, IntKind.signed] at h2
  exact ⟨n, rfl, by omega, by omega⟩
set_option maxRecDepth 100000 in
theorem u8_of_val {W : World} {r : Reach} {b0 : Nat} {v : Value} (h : Value.okWide Tryd.prog W r b0 5 v) : ∃ n : Nat, v = .int .u8 n ∧ n < 256 := by
  obtain ⟨n, rfl⟩ := okWide_int Tryd.underlying5 h
  have h2 := h
  simp [Value.okWide, Tryd.underlying5, Cell.okWide, Cell.ok, IntKind.has, IntKind.min, IntKind.max, IntKind.bits, IntKind.signed] at h2
  refine ⟨n.toNat, ?_, ?_⟩
  · congr 1; omega
  · omega
set_option maxRecDepth 100000 in
theorem int_of_val {W : World} {r : Reach} {b0 : Nat} {v : Value} (h : Value.okWide Tryd.prog W r b0 3 v) : ∃ n : Int, v = .int .i64 n ∧ -9223372036854775808 ≤ n ∧ n < 9223372036854775808 := by
  obtain ⟨n, rfl⟩ := okWide_int Tryd.underlying3 h
  have h2 := h
  simp [Value.okWide, Tryd.underlying3, Cell.okWide, Cell.ok, IntKind.has, IntKind.min, IntKind.max, IntKind.bits, IntKind.signed] at h2
  exact ⟨n, rfl, by omega, by omega⟩
theorem sp_data : (Rows.laid_strings_asciiSpace : DataW Unit) = Lib.tabData .u8 Lib.asciiSpaceTab := by kernel_rfl
theorem sp_of_laid {W : World} {x y : String × DataW Unit} {rest : List (String × DataW Unit)} (h : laidMet Tryd.prog (x :: y :: ("strings.asciiSpace", Rows.laid_strings_asciiSpace) :: rest) W) : SpTab W := by
  have h2 := laidMet.tail (laidMet.tail h)
  rw [sp_data] at h2
  exact SpTab.of (Lib.tabIs_of_head (g := 0) (t := (Tryd.prog.globals[0]?.map (·.type)).getD 0) (e := 5) (n := 256) (by kernel_rfl) (by kernel_rfl) (by kernel_rfl) Tryd.underlying5 (by kernel_rfl) (by kernel_rfl) h2)
end Go.Proofs.YtdkmnolljllddaaDoor

namespace Go.Proofs.YtdkmnolljllddaaDoor
open Go.ChangeShapes Go.WideShapes Go.ChangeAt Go.RowKit Go.Deep Go.Joins

/-- What the parts weigh, the whole weighs. -/
theorem bulk_sum {H α : Type} (g : α → Nat) : ∀ (xs : List α) (ds : List (DataW H)), (∀ (j : Nat) z, xs[j]? = some z → ∃ d, ds[j]? = some d ∧ g z ≤ Rows.uptoBulk d) → (xs.map g).sum ≤ Rows.uptoBulkAll ds
  | [], _, _ => Nat.zero_le _
  | z :: xs, ds, h => by
    obtain ⟨d, hd, hg⟩ := h 0 z rfl
    cases ds with
    | nil => cases hd
    | cons d0 ds =>
      cases hd
      have ih := bulk_sum g xs ds (fun j z hz => by
        obtain ⟨d', h1, h2⟩ := h (j + 1) z hz
        exact ⟨d', h1, h2⟩)
      simp only [List.map_cons, List.sum_cons, Rows.uptoBulkAll]
      omega
section
variable {H : Type} {enc : TypeId × Value → H} {W : World} {base : Nat} {sp : Nat → Bool} {held : Bool}
theorem rowK_of_trodD {P : Program} {α : Type} (f : α → List Value) (Good : α → DataW H → Prop) {K : Nat} (hK : 0 < K) (hf : ∀ x, (f x).length = K) {t e : TypeId} {fuel : Nat} {v : Value} {x : DataW H × List MemPlace}
    (ht : P.underlying t = some (.slice e)) (hc : P.cellsOf e = K) (he : ∀ n cs y, DataW.trod enc P W base sp held n e cs = some y → cs.length = K → ∃ z : α, cs = f z ∧ Good z y.1)
    (h : DataW.trod enc P W base sp held fuel t [v] = some x) : ∃ xs, Row f W v xs ∧ (xs = [] ∨ ∃ elems sp', x.1 = .slice elems sp' ∧ ∀ (j : Nat) z, xs[j]? = some z → ∃ d, elems[j]? = some d ∧ Good z d) := by
  rcases open_slice ht h with ⟨h1, _⟩ | ⟨a, len, cap, m, n, D, Pl, h1, _, hl, hm, hmm, hxx, hi⟩
  · obtain rfl : v = .slice none 0 0 := by simpa using h1
    exact ⟨[], Row.nil _ W, .inl rfl⟩
  · obtain rfl : v = .slice (some a) len cap := by simpa using h1
    have hle : len ≤ m := by rw [hmm]; split <;> omega
    have hs : ∀ i : Fin len, ∃ z : α, (∀ j u, (f z)[j]? = some u → W.cell? ((a.add (i.val * K)).add j) = some u) ∧ Good z (D i.val) := by
      intro i
      obtain ⟨cs', hcs, htr⟩ := hi i.val (by have := i.isLt; omega)
      rw [hc] at hcs
      obtain ⟨_, hcl, hat⟩ := World.cells?_some hcs
      obtain ⟨z, rfl, hg⟩ := he _ _ _ htr hcl
      refine ⟨z, fun j u hu => ?_, hg⟩
      have hj := (List.getElem?_eq_some_iff.1 hu).1
      have h2 := hat j (by rw [hf] at hj; exact hj)
      rw [h2]
      simpa using hu
    obtain ⟨g, hg⟩ := Classical.axiomOfChoice hs
    by_cases h0 : len = 0
    · subst h0
      exact ⟨[], ⟨some a, cap, rfl, hl, hm, .inl rfl⟩, .inl rfl⟩
    · refine ⟨List.ofFn g, ⟨some a, cap, by simp, by simpa using hl, hm, .inr ?_⟩, .inr ⟨(List.range len).map D, (List.range (m - len)).map fun j => D (len + j), by rw [hxx], fun j z hz => ?_⟩⟩
      · have hlen : 0 < len := by omega
        obtain ⟨u, hu⟩ : ∃ u, (f (g ⟨0, hlen⟩))[0]? = some u := ⟨(f (g ⟨0, hlen⟩))[0]'(by rw [hf]; exact hK), List.getElem?_eq_getElem _⟩
        have hz := spot_none ((hg ⟨0, by omega⟩).1 0 u hu)
        obtain ⟨b, o, s⟩ := a
        have hs0 : s = none := by simpa [Addr.add] using hz
        subst hs0
        refine ⟨b, o, rfl, fun j x hx i u hu => ?_⟩
        rw [List.getElem?_ofFn] at hx
        split at hx
        · rename_i hj
          cases hx
          have h1 := (hg ⟨j, hj⟩).1 i u hu
          rw [addr_cell] at h1
          rw [hf]; exact h1
        · cases hx
      · rw [List.getElem?_ofFn] at hz
        split at hz
        · rename_i hj
          cases hz
          exact ⟨D j, by simp [hj], (hg ⟨j, hj⟩).2⟩
        · cases hz
set_option maxRecDepth 100000 in
theorem itc_of_trodD (n : Nat) (cs : List Value) (y : DataW H × List MemPlace) (h : DataW.trod enc Tryd.prog W base sp held n 32 cs = some y) (hl : cs.length = 4) : ∃ x : Itm, cs = itC x ∧ x.1.length + x.2.2.2.length ≤ Rows.uptoBulk y.1 := by
  obtain ⟨c0, c1, c2, c3, rfl⟩ := list4 hl
  obtain ⟨ys, n', _, hy, _, hyl, hf⟩ := DataW.trod_struct Tryd.underlying32 h
  have t1 := hf 0 _ rfl
  have t2 := hf 1 _ rfl
  have t3 := hf 2 _ rfl
  have t4 := hf 3 _ rfl
  change DataW.trod enc Tryd.prog W base sp held n' 9 (([c0, c1, c2, c3].drop 0).take (Tryd.prog.cellsOf 9)) = ys[0]? at t1
  change DataW.trod enc Tryd.prog W base sp held n' 4 (([c0, c1, c2, c3].drop 1).take (Tryd.prog.cellsOf 4)) = ys[1]? at t2
  change DataW.trod enc Tryd.prog W base sp held n' 4 (([c0, c1, c2, c3].drop 2).take (Tryd.prog.cellsOf 4)) = ys[2]? at t3
  change DataW.trod enc Tryd.prog W base sp held n' 9 (([c0, c1, c2, c3].drop 3).take (Tryd.prog.cellsOf 9)) = ys[3]? at t4
  rw [sizesT.2.1] at t1 t4
  rw [sizesT.2.2] at t2 t3
  match ys, hyl with
  | [y0, y1, y2, y3], _ =>
    obtain ⟨s1, e1, x1, _⟩ := DataW.trod_string Tryd.underlying9 (show DataW.trod enc Tryd.prog W base sp held n' 9 [c0] = some y0 from t1)
    obtain ⟨b2, e2, x2⟩ := DataW.trod_bool Tryd.underlying4 (show DataW.trod enc Tryd.prog W base sp held n' 4 [c1] = some y1 from t2)
    obtain ⟨b3, e3, x3⟩ := DataW.trod_bool Tryd.underlying4 (show DataW.trod enc Tryd.prog W base sp held n' 4 [c2] = some y2 from t3)
    obtain ⟨s4, e4, x4, _⟩ := DataW.trod_string Tryd.underlying9 (show DataW.trod enc Tryd.prog W base sp held n' 9 [c3] = some y3 from t4)
    cases e1; cases e2; cases e3; cases e4
    refine ⟨(s1.data.toList, b2, b3, s4.data.toList), by simp [S_toList], ?_⟩
    rw [hy, x1, x2, x3, x4]
    simp [Rows.uptoBulk, Rows.uptoBulkAll]
    omega
set_option maxRecDepth 100000 in
theorem items_of_trodD {b0 : Nat} {r : Reach} {v : Value} {d : DataW H} {ps : List MemPlace}
    (hval : Value.okWide Tryd.prog W r b0 22 v) (h : DataW.Trod enc Tryd.prog W base sp held 22 v d ps) : ∃ xs : List Itm, ItRow W v xs ∧ (xs.map (fun x => x.1.length + x.2.2.2.length)).sum ≤ Rows.uptoBulk d := by
  obtain ⟨a0, n0, c0, rfl⟩ := okWide_slice Tryd.underlying22 hval
  obtain ⟨fuel, hf⟩ := h
  obtain ⟨xs, hr, hd⟩ := rowK_of_trodD (K := 4) itC (fun x d => x.1.length + x.2.2.2.length ≤ Rows.uptoBulk d) (by omega) (fun _ => rfl) Tryd.underlying22 sizesT.1 itc_of_trodD (show DataW.trod enc Tryd.prog W base sp held fuel 22 [.slice a0 n0 c0] = some _ from hf)
  refine ⟨xs, hr, ?_⟩
  rcases hd with rfl | ⟨elems, sp', he, hg⟩
  · exact Nat.zero_le _
  · have hb := bulk_sum (fun x : Itm => x.1.length + x.2.2.2.length) xs elems hg
    rw [show d = .slice elems sp' from he]
    simp only [Rows.uptoBulk]
    omega
end
theorem items_small {xs : List Itm} {B : Nat} (h : (xs.map (fun x => x.1.length + x.2.2.2.length)).sum ≤ B) : (∀ x ∈ xs, x.1.length ≤ B) ∧ sizeT xs ≤ B := by
  induction xs generalizing B with
  | nil => exact ⟨by simp, Nat.zero_le _⟩
  | cons x xs ih =>
    simp only [List.map_cons, List.sum_cons] at h
    obtain ⟨h1, h2⟩ := ih (B := B - (x.1.length + x.2.2.2.length)) (by omega)
    refine ⟨fun y hy => ?_, by rw [sizeT_cons]; omega⟩
    rcases List.mem_cons.1 hy with rfl | hy
    · omega
    · have := h1 y hy; omega
theorem bulk_part {H : Type} {d : DataW H} {l : List (DataW H)} (h : d ∈ l) : Rows.uptoBulk d ≤ Rows.uptoBulkAll l := by
  induction l with
  | nil => cases h
  | cons x r ih =>
    simp only [Rows.uptoBulkAll]
    cases List.mem_cons.1 h with
    | inl e => subst e; omega
    | inr e => have := ih e; omega
theorem bulk_of_mem {H : Type} {d : DataW H} {l : List (DataW H)} (hk : Rows.uptoSmall H l = true) (hm : d ∈ l) : Rows.uptoBulk d ≤ 1048576 :=
  Nat.le_trans (bulk_part hm) (of_decide_eq_true hk)
end Go.Proofs.YtdkmnolljllddaaDoor
