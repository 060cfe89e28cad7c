/- A statement's arguments, opened: trees that are kept, a row of them and one. -/
import Derived.Test.YtmlahfmcccpgjaaArgs
import Derived.Test.YtmlahfmcccpgjaaCells
import Derived.Deep.Slices
import Derived.Lib.SmallJoins
namespace Go.Proofs.Ytmlahfmcccpgjaa
open Go.ChangeShapes Go.WideShapes Go.ChangeAt Go.RowKit Go.Deep Go.Joins

theorem spot_none {W : World} {a : Addr} {v : Value} (h : W.cell? a = some v) : a.spot = none := by
  simp only [World.cell?] at h
  split at h
  · split at h
    · cases h
    · cases hh : a.spot <;> simp_all
  · cases h

set_option maxRecDepth 100000 in
theorem snap_cells2 : Try.prog.cellsOf 31 = 2 ∧ Try.prog.cellsOf 9 = 1 := by constructor <;> kernel_rfl

set_option maxRecDepth 100000 in
/-- The two texts of a tree's datum. -/
theorem snap_texts {H : Type} {enc : TypeId × Value → H} {W : World} {base n : Nat} {sp : Nat → Bool} {held : Bool} {c0 c1 : Value} {x : DataW H × List MemPlace}
    (h : DataW.trod enc Try.prog W base sp held n 31 [c0, c1] = some x) : ∃ p q : List UInt8, c0 = S p ∧ c1 = S q := by
  obtain ⟨ys, n', _, _, _, hyl, hf⟩ := DataW.trod_struct Try.underlying31 h
  have t1 := hf 0 _ rfl
  have t2 := hf 1 _ rfl
  have e1 : Try.prog.cellsOf 9 = 1 := snap_cells2.2
  change DataW.trod enc Try.prog W base sp held n' 9 (([c0, c1].drop 0).take (Try.prog.cellsOf 9)) = ys[0]? at t1
  change DataW.trod enc Try.prog W base sp held n' 9 (([c0, c1].drop 1).take (Try.prog.cellsOf 9)) = ys[1]? at t2
  rw [e1] at t1 t2
  match ys, hyl with
  | [y0, y1], _ =>
    obtain ⟨s1, e1, _⟩ := DataW.trod_string Try.underlying9 (show DataW.trod enc Try.prog W base sp held n' 9 [c0] = some y0 from t1)
    obtain ⟨s2, e2, _⟩ := DataW.trod_string Try.underlying9 (show DataW.trod enc Try.prog W base sp held n' 9 [c1] = some y1 from t2)
    cases e1
    cases e2
    exact ⟨s1.data.toList, s2.data.toList, (S_toList s1).symm, (S_toList s2).symm⟩

set_option maxRecDepth 100000 in
theorem snaps_of_trod {H : Type} {enc : TypeId × Value → H} {W : World} {base b0 : Nat} {sp : Nat → Bool} {held : Bool} {r : Reach} {v : Value} {d : DataW H} {ps : List MemPlace}
    (hval : Value.okWide Try.prog W r b0 24 v) (h : DataW.Trod enc Try.prog W base sp held 24 v d ps) : ∃ xs, SnpRow W v xs := by
  obtain ⟨a0, n0, c0, rfl⟩ := okWide_slice Try.underlying24 hval
  obtain ⟨fuel, hf⟩ := h
  rcases open_slice Try.underlying24 hf with ⟨hc, _⟩ | ⟨a, len, cap, m, n, D, Pl, hc, _, hl, hm, hmm, _, hi⟩
  · simp [Value.cells] at hc
    obtain ⟨rfl, rfl, rfl⟩ := hc
    exact ⟨[], Row.nil _ W⟩
  · simp [Value.cells] at hc
    obtain ⟨rfl, rfl, rfl⟩ := hc
    have hle : n0 ≤ m := by rw [hmm]; split <;> omega
    have hs : ∀ i, i < n0 → ∃ x : Snp, W.cell? ((a.add (i * 2)).add 0) = some (S x.1) ∧ W.cell? ((a.add (i * 2)).add 1) = some (S x.2) := by
      intro i hin
      obtain ⟨cs', hcs, ht⟩ := hi i (by omega)
      rw [snap_cells2.1] at hcs
      obtain ⟨_, hcl, hat⟩ := World.cells?_some hcs
      match cs', hcl with
      | [c0, c1], _ =>
        obtain ⟨p, q, rfl, rfl⟩ := snap_texts ht
        exact ⟨(p, q), by simpa using hat 0 (by omega), by simpa using hat 1 (by omega)⟩
    obtain ⟨g, hg⟩ := Classical.axiomOfChoice (fun (i : Fin n0) => hs i.val i.isLt)
    by_cases h0 : n0 = 0
    · subst h0
      exact ⟨[], some a, c0, rfl, hl, hm, .inl rfl⟩
    · refine ⟨List.ofFn g, some a, c0, by simp, by simpa using hl, hm, .inr ?_⟩
      have hz := spot_none (hg ⟨0, by omega⟩).1
      obtain ⟨b, o, s⟩ := a
      have hs0 : s = none := by simpa [Addr.add] using hz
      subst hs0
      refine ⟨b, o, rfl, fun j x hx i u hu => ?_⟩
      rw [List.getElem?_ofFn] at hx
      split at hx
      · rename_i hj
        cases hx
        have h1 := (hg ⟨j, hj⟩).1
        have h2 := (hg ⟨j, hj⟩).2
        rw [Addr.add_lit, Addr.add_lit] at h1 h2
        match i, hu with
        | 0, hu => simp at hu; subst hu; exact h1
        | 1, hu => simp at hu; subst hu; exact h2
      · cases hx

set_option maxRecDepth 100000 in
theorem snap_of_trod {H : Type} {enc : TypeId × Value → H} {W : World} {base b0 : Nat} {sp : Nat → Bool} {held : Bool} {r : Reach} {v : Value} {d : DataW H} {ps : List MemPlace}
    (hval : Value.okWide Try.prog W r b0 31 v) (h : DataW.Trod enc Try.prog W base sp held 31 v d ps) : ∃ x : Snp, v = SnpV x := by
  obtain ⟨cs, rfl, hsz⟩ := okWide_struct Try.underlying31 hval
  obtain ⟨c0, c1, rfl⟩ := array2 (hsz.trans snap_cells2.1)
  obtain ⟨fuel, hf⟩ := h
  obtain ⟨p, q, rfl, rfl⟩ := snap_texts (c0 := c0) (c1 := c1) hf
  exact ⟨(p, q), rfl⟩
end Go.Proofs.Ytmlahfmcccpgjaa
