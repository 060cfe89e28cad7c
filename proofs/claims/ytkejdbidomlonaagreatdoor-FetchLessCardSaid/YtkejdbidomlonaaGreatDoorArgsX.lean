/- A statement's arguments, opened: one object. -/
import Derived.Test.YtkejdbidomlonaaGreatDoorArgsO
namespace Go.Proofs.YtkejdbidomlonaaGreatDoor
open Go.ChangeShapes Go.WideShapes Go.ChangeAt Go.RowKit Go.Deep Go.Joins

set_option maxRecDepth 100000 in
theorem obj_texts {H : Type} {enc : TypeId × Value → H} {W : World} {base n : Nat} {sp : Nat → Bool} {held : Bool} {c0 c1 : Value} {x : DataW H × List MemPlace}
    (h : DataW.trod enc Tryz.prog W base sp held n 27 [c0, c1] = some x) : ∃ p q : List UInt8, c0 = S p ∧ c1 = S q := by
  obtain ⟨ys, n', _, _, _, hyl, hf⟩ := DataW.trod_struct Tryz.underlying27 h
  have t1 := hf 0 _ rfl
  have t2 := hf 1 _ rfl
  have e1 : Tryz.prog.cellsOf 9 = 1 := sizesO.2.1
  change DataW.trod enc Tryz.prog W base sp held n' 9 (([c0, c1].drop 0).take (Tryz.prog.cellsOf 9)) = ys[0]? at t1
  change DataW.trod enc Tryz.prog W base sp held n' 9 (([c0, c1].drop 1).take (Tryz.prog.cellsOf 9)) = ys[1]? at t2
  rw [e1] at t1 t2
  match ys, hyl with
  | [y0, y1], _ =>
    obtain ⟨s1, e1, _⟩ := DataW.trod_string Tryz.underlying9 (show DataW.trod enc Tryz.prog W base sp held n' 9 [c0] = some y0 from t1)
    obtain ⟨s2, e2, _⟩ := DataW.trod_string Tryz.underlying9 (show DataW.trod enc Tryz.prog W base sp held n' 9 [c1] = some y1 from t2)
    cases e1
    cases e2
    exact ⟨s1.data.toList, s2.data.toList, (S_toList s1).symm, (S_toList s2).symm⟩

set_option maxRecDepth 100000 in
theorem obj_of_val {H : Type} {enc : TypeId × Value → H} {W : World} {base b0 : Nat} {sp : Nat → Bool} {held : Bool} {r : Reach} {v : Value} {d : DataW H} {ps : List MemPlace}
    (hval : Value.okWide Tryz.prog W r b0 27 v) (h : DataW.Trod enc Tryz.prog W base sp held 27 v d ps) : ∃ x : Snp, v = SnpV x := by
  obtain ⟨cs, rfl, hsz⟩ := okWide_struct Tryz.underlying27 hval
  obtain ⟨c0, c1, rfl⟩ := array2 (hsz.trans sizesO.1)
  obtain ⟨fuel, hf⟩ := h
  obtain ⟨p, q, rfl, rfl⟩ := obj_texts (c0 := c0) (c1 := c1) hf
  exact ⟨(p, q), rfl⟩
end Go.Proofs.YtkejdbidomlonaaGreatDoor
