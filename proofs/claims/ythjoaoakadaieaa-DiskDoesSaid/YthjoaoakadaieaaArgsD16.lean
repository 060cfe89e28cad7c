/- A statement's arguments, opened: small numbers, truths. A statement's arguments, opened: disks, rows of truths. A statement's arguments, opened: numbers of sixteen and of sixty-four bits. -/
import Derived.Test.YthjoaoakadaieaaBase
import Derived.SliceStrings
import Derived.OpenShut
import Derived.ProofKit
import Derived.ChangeOld
import Derived.ChangeMaps5
import Derived.Test.YthjoaoakadaieaaDiskB
import Derived.Deep.Slices
import Derived.Lib.SmallJoins
namespace Go.Proofs.Ythjoaoakadaieaa
open Go.ChangeShapes Go.WideShapes Go.ChangeAt Go.RowKit

set_option maxRecDepth 100000 in
theorem u8_of_val {W : World} {r : Reach} {b0 : Nat} {v : Value} (h : Value.okWide Try.prog W r b0 5 v) : ∃ n : Nat, v = .int .u8 n ∧ n < 256 := by
  obtain ⟨n, rfl⟩ := okWide_int Try.underlying5 h
  have h2 := h
  simp [Value.okWide, Try.underlying5, Cell.okWide, Cell.ok, IntKind.has, IntKind.min, IntKind.max, IntKind.bits, IntKind.signed] at h2
  refine ⟨n.toNat, ?_, ?_⟩
  · congr 1; omega
  · omega
set_option maxRecDepth 100000 in
theorem bool_of_val {W : World} {r : Reach} {b0 : Nat} {v : Value} (h : Value.okWide Try.prog W r b0 4 v) : ∃ c : Bool, v = .bool c := okWide_bool Try.underlying4 h
end Go.Proofs.Ythjoaoakadaieaa

namespace Go.Proofs.Ythjoaoakadaieaa
open Go.ChangeShapes Go.WideShapes Go.ChangeAt Go.RowKit Go.Deep Go.Joins

theorem S_toList (s : ByteArray) : S s.data.toList = .string s := by cases s; simp
theorem spot_none {W : World} {a : Addr} {v : Value} (h : W.cell? a = some v) : a.spot = none := by
  simp only [World.cell?] at h
  split at h
  · split at h
    · cases h
    · cases hh : a.spot <;> simp_all
  · cases h
theorem addr_cell {b o i K j : Nat} : (((⟨b, o, none⟩ : Addr).add (i * K)).add j) = ⟨b, o + i * K + j, none⟩ := by rw [Addr.add_lit, Addr.add_lit]

section
variable {H : Type} {enc : TypeId × Value → H} {P : Program} {W : World} {base : Nat} {sp : Nat → Bool} {held : Bool}
/-- A slice of elements of K cells, each of which reads as f of something. -/
theorem rowK_of_trod {α : Type} (f : α → List Value) (Good : α → Prop) {K : Nat} (hK : 0 < K) (hf : ∀ x, (f x).length = K) {t e : TypeId} {fuel : Nat} {v : Value} {x : DataW H × List MemPlace}
    (ht : P.underlying t = some (.slice e)) (hc : P.cellsOf e = K) (he : ∀ n cs y, DataW.trod enc P W base sp held n e cs = some y → cs.length = K → ∃ z : α, cs = f z ∧ Good z)
    (h : DataW.trod enc P W base sp held fuel t [v] = some x) : ∃ xs, Row f W v xs ∧ ∀ z ∈ xs, Good z := by
  rcases open_slice ht h with ⟨h1, _⟩ | ⟨a, len, cap, m, n, D, Pl, h1, _, hl, hm, hmm, _, hi⟩
  · obtain rfl : v = .slice none 0 0 := by simpa using h1
    exact ⟨[], Row.nil _ W, by simp⟩
  · obtain rfl : v = .slice (some a) len cap := by simpa using h1
    have hle : len ≤ m := by rw [hmm]; split <;> omega
    have hs : ∀ i : Fin len, ∃ z : α, (∀ j u, (f z)[j]? = some u → W.cell? ((a.add (i.val * K)).add j) = some u) ∧ Good z := by
      intro i
      obtain ⟨cs', hcs, htr⟩ := hi i.val (by have := i.isLt; omega)
      rw [hc] at hcs
      obtain ⟨_, hcl, hat⟩ := World.cells?_some hcs
      obtain ⟨z, rfl, hg⟩ := he _ _ _ htr hcl
      refine ⟨z, fun j u hu => ?_, hg⟩
      have hj := (List.getElem?_eq_some_iff.1 hu).1
      have h2 := hat j (by rw [hf] at hj; exact hj)
      rw [h2]
      simpa using hu
    obtain ⟨g, hg⟩ := Classical.axiomOfChoice hs
    by_cases h0 : len = 0
    · subst h0
      exact ⟨[], ⟨some a, cap, rfl, hl, hm, .inl rfl⟩, by simp⟩
    · refine ⟨List.ofFn g, ⟨some a, cap, by simp, by simpa using hl, hm, .inr ?_⟩, fun z hz => ?_⟩
      · have hlen : 0 < len := by omega
        obtain ⟨u, hu⟩ : ∃ u, (f (g ⟨0, hlen⟩))[0]? = some u := ⟨(f (g ⟨0, hlen⟩))[0]'(by rw [hf]; exact hK), List.getElem?_eq_getElem _⟩
        have hz := spot_none ((hg ⟨0, by omega⟩).1 0 u hu)
        obtain ⟨b, o, s⟩ := a
        have hs0 : s = none := by simpa [Addr.add] using hz
        subst hs0
        refine ⟨b, o, rfl, fun j x hx i u hu => ?_⟩
        rw [List.getElem?_ofFn] at hx
        split at hx
        · rename_i hj
          cases hx
          have h1 := (hg ⟨j, hj⟩).1 i u hu
          rw [addr_cell] at h1
          rw [hf]; exact h1
        · cases hx
      · obtain ⟨i, hi⟩ := List.getElem?_of_mem hz
        rw [List.getElem?_ofFn] at hi
        split at hi
        · cases hi; exact (hg _).2
        · cases hi
end

set_option maxRecDepth 100000 in
theorem sizes : Try.prog.cellsOf 69 = 2 ∧ Try.prog.cellsOf 50 = 3 ∧ Try.prog.cellsOf 35 = 3 ∧ Try.prog.cellsOf 9 = 1 ∧ Try.prog.cellsOf 3 = 1 ∧ Try.prog.cellsOf 4 = 1 ∧ Try.prog.cellsOf 48 = 1 ∧ Try.prog.cellsOf 33 = 1 := by
  refine ⟨?_, ?_, ?_, ?_, ?_, ?_, ?_, ?_⟩ <;> kernel_rfl
theorem list2 {α : Type} {l : List α} (h : l.length = 2) : ∃ a b, l = [a, b] := by
  match l, h with
  | [a, b], _ => exact ⟨a, b, rfl⟩
theorem list3 {α : Type} {l : List α} (h : l.length = 3) : ∃ a b c, l = [a, b, c] := by
  match l, h with
  | [a, b, c], _ => exact ⟨a, b, c, rfl⟩

section
variable {H : Type} {enc : TypeId × Value → H} {W : World} {base : Nat} {sp : Nat → Bool} {held : Bool}
set_option maxRecDepth 100000 in
theorem op_of_trod (n : Nat) (cs : List Value) (y : DataW H × List MemPlace) (h : DataW.trod enc Try.prog W base sp held n 69 cs = some y) (hl : cs.length = 2) : ∃ o : Opn, cs = opC o ∧ True := by
  obtain ⟨c0, c1, rfl⟩ := list2 hl
  obtain ⟨ys, n', _, _, _, hyl, hf⟩ := DataW.trod_struct Try.underlying69 h
  have t1 := hf 0 _ rfl
  have t2 := hf 1 _ rfl
  change DataW.trod enc Try.prog W base sp held n' 3 (([c0, c1].drop 0).take (Try.prog.cellsOf 3)) = ys[0]? at t1
  change DataW.trod enc Try.prog W base sp held n' 9 (([c0, c1].drop 1).take (Try.prog.cellsOf 9)) = ys[1]? at t2
  rw [sizes.2.2.2.2.1] at t1
  rw [sizes.2.2.2.1] at t2
  match ys, hyl with
  | [y0, y1], _ =>
    obtain ⟨k, e1, _⟩ := DataW.trod_int Try.underlying3 (show DataW.trod enc Try.prog W base sp held n' 3 [c0] = some y0 from t1)
    obtain ⟨s, e2, _⟩ := DataW.trod_string Try.underlying9 (show DataW.trod enc Try.prog W base sp held n' 9 [c1] = some y1 from t2)
    cases e1; cases e2
    exact ⟨(k, s.data.toList), by simp [S_toList], trivial⟩
set_option maxRecDepth 100000 in
theorem dfile_of_trod (n : Nat) (cs : List Value) (y : DataW H × List MemPlace) (h : DataW.trod enc Try.prog W base sp held n 50 cs = some y) (hl : cs.length = 3) : ∃ x : DF, cs = dfC x ∧ OpRow W x.ov x.ops := by
  obtain ⟨c0, c1, c2, rfl⟩ := list3 hl
  obtain ⟨ys, n', _, _, _, hyl, hf⟩ := DataW.trod_struct Try.underlying50 h
  have t1 := hf 0 _ rfl
  have t2 := hf 1 _ rfl
  have t3 := hf 2 _ rfl
  change DataW.trod enc Try.prog W base sp held n' 9 (([c0, c1, c2].drop 0).take (Try.prog.cellsOf 9)) = ys[0]? at t1
  change DataW.trod enc Try.prog W base sp held n' 9 (([c0, c1, c2].drop 1).take (Try.prog.cellsOf 9)) = ys[1]? at t2
  change DataW.trod enc Try.prog W base sp held n' 48 (([c0, c1, c2].drop 2).take (Try.prog.cellsOf 48)) = ys[2]? at t3
  rw [sizes.2.2.2.1] at t1 t2
  rw [sizes.2.2.2.2.2.2.1] at t3
  match ys, hyl with
  | [y0, y1, y2], _ =>
    obtain ⟨s1, e1, _⟩ := DataW.trod_string Try.underlying9 (show DataW.trod enc Try.prog W base sp held n' 9 [c0] = some y0 from t1)
    obtain ⟨s2, e2, _⟩ := DataW.trod_string Try.underlying9 (show DataW.trod enc Try.prog W base sp held n' 9 [c1] = some y1 from t2)
    obtain ⟨xs, hr, _⟩ := rowK_of_trod opC (fun _ => True) (by omega) opC_len Try.underlying48 sizes.1 op_of_trod (show DataW.trod enc Try.prog W base sp held n' 48 [c2] = some y2 from t3)
    cases e1; cases e2
    exact ⟨⟨s1.data.toList, s2.data.toList, c2, xs⟩, by simp [S_toList], hr⟩
set_option maxRecDepth 100000 in
theorem disk_of_trod {b0 : Nat} {r : Reach} {v : Value} {d : DataW H} {ps : List MemPlace}
    (hval : Value.okWide Try.prog W r b0 35 v) (h : DataW.Trod enc Try.prog W base sp held 35 v d ps) : ∃ fv off fuse l, v = DiskV fv off fuse ∧ FilesR W fv l := by
  obtain ⟨cs, rfl, hsz⟩ := okWide_struct Try.underlying35 hval
  obtain ⟨l, rfl⟩ : ∃ l : List Value, cs = l.toArray := ⟨cs.toList, by simp⟩
  obtain ⟨c0, c1, c2, rfl⟩ := list3 (l := l) (by simpa using hsz.trans sizes.2.2.1)
  obtain ⟨fuel, hfu⟩ := h
  obtain ⟨ys, n', _, _, _, hyl, hf⟩ := DataW.trod_struct Try.underlying35 hfu
  have t1 := hf 0 _ rfl
  have t2 := hf 1 _ rfl
  have t3 := hf 2 _ rfl
  change DataW.trod enc Try.prog W base sp held n' 33 (([c0, c1, c2].drop 0).take (Try.prog.cellsOf 33)) = ys[0]? at t1
  change DataW.trod enc Try.prog W base sp held n' 4 (([c0, c1, c2].drop 1).take (Try.prog.cellsOf 4)) = ys[1]? at t2
  change DataW.trod enc Try.prog W base sp held n' 3 (([c0, c1, c2].drop 2).take (Try.prog.cellsOf 3)) = ys[2]? at t3
  rw [sizes.2.2.2.2.2.2.2] at t1
  rw [sizes.2.2.2.2.2.1] at t2
  rw [sizes.2.2.2.2.1] at t3
  match ys, hyl with
  | [y0, y1, y2], _ =>
    obtain ⟨xs, hr, hg⟩ := rowK_of_trod dfC (fun x => OpRow W x.ov x.ops) (by omega) dfC_len Try.underlying33 sizes.2.1 dfile_of_trod (show DataW.trod enc Try.prog W base sp held n' 33 [c0] = some y0 from t1)
    obtain ⟨bb, e2, _⟩ := DataW.trod_bool Try.underlying4 (show DataW.trod enc Try.prog W base sp held n' 4 [c1] = some y1 from t2)
    obtain ⟨k, e3, _⟩ := DataW.trod_int Try.underlying3 (show DataW.trod enc Try.prog W base sp held n' 3 [c2] = some y2 from t3)
    cases e2; cases e3
    exact ⟨c0, bb, k, xs, rfl, hr, hg⟩
set_option maxRecDepth 100000 in
theorem bools_of_trod {b0 : Nat} {r : Reach} {v : Value} {d : DataW H} {ps : List MemPlace}
    (hval : Value.okWide Try.prog W r b0 36 v) (h : DataW.Trod enc Try.prog W base sp held 36 v d ps) : ∃ ks : List Bool, Row (fun b => [Value.bool b]) W v ks := by
  obtain ⟨a0, n0, c0, rfl⟩ := okWide_slice Try.underlying36 hval
  obtain ⟨fuel, hf⟩ := h
  obtain ⟨xs, hr, _⟩ := rowK_of_trod (K := 1) (fun b : Bool => [Value.bool b]) (fun _ => True) (by omega) (fun _ => rfl) Try.underlying36 sizes.2.2.2.2.2.1 (fun n cs y hy hl => by
    match cs, hl with
    | [c0], _ =>
      obtain ⟨bb, e2, _⟩ := DataW.trod_bool Try.underlying4 hy
      cases e2
      exact ⟨bb, rfl, trivial⟩) (show DataW.trod enc Try.prog W base sp held fuel 36 [.slice a0 n0 c0] = some _ from hf)
  exact ⟨xs, hr⟩
end
end Go.Proofs.Ythjoaoakadaieaa

namespace Go.Proofs.Ythjoaoakadaieaa
open Go.ChangeShapes Go.WideShapes Go.ChangeAt Go.RowKit

set_option maxRecDepth 100000 in
theorem u16_of_val {W : World} {r : Reach} {b0 : Nat} {v : Value} (h : Value.okWide Try.prog W r b0 41 v) : ∃ n : Nat, v = .int .u16 n ∧ n < 65536 := by
  obtain ⟨n, rfl⟩ := okWide_int Try.underlying41 h
  have h2 := h
  simp [Value.okWide, Try.underlying41, Cell.okWide, Cell.ok, IntKind.has, IntKind.min, IntKind.max, IntKind.bits, IntKind.signed] at h2
  refine ⟨n.toNat, ?_, ?_⟩
  · congr 1; omega
  · omega
set_option maxRecDepth 100000 in
theorem int_of_val {W : World} {r : Reach} {b0 : Nat} {v : Value} (h : Value.okWide Try.prog W r b0 3 v) : ∃ n : Int, v = .int .i64 n ∧ -9223372036854775808 ≤ n ∧ n < 9223372036854775808 := by
  obtain ⟨n, rfl⟩ := okWide_int Try.underlying3 h
  have h2 := h
  simp [Value.okWide, Try.underlying3, Cell.okWide, Cell.ok, IntKind.has, IntKind.min, IntKind.max, IntKind.bits, IntKind.signed] at h2
  exact ⟨n, rfl, by omega, by omega⟩
end Go.Proofs.Ythjoaoakadaieaa
