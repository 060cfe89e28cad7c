/- A statement's arguments, opened: trees' items. -/
import Derived.Test.YtaompdnnkfmjhaaGreatDoorJR13
import Derived.Test.YtaompdnnkfmjhaaGreatDoorJRFile12
namespace Go.Proofs.YtaompdnnkfmjhaaGreatDoor
open Go.ChangeShapes Go.WideShapes Go.ChangeAt Go.RowKit Go.Deep Go.Joins

set_option maxRecDepth 100000 in
theorem sizesT : Tryz.prog.cellsOf 65 = 4 ∧ Tryz.prog.cellsOf 9 = 1 ∧ Tryz.prog.cellsOf 4 = 1 := by
  refine ⟨?_, ?_, ?_⟩ <;> kernel_rfl
section
variable {H : Type} {enc : TypeId × Value → H} {W : World} {base : Nat} {sp : Nat → Bool} {held : Bool}
set_option maxRecDepth 100000 in
theorem itc_of_trod (n : Nat) (cs : List Value) (y : DataW H × List MemPlace) (h : DataW.trod enc Tryz.prog W base sp held n 65 cs = some y) (hl : cs.length = 4) : ∃ x : Itm, cs = itC x ∧ True := by
  obtain ⟨c0, c1, c2, c3, rfl⟩ := list4 hl
  obtain ⟨ys, n', _, _, _, hyl, hf⟩ := DataW.trod_struct Tryz.underlying65 h
  have t1 := hf 0 _ rfl
  have t2 := hf 1 _ rfl
  have t3 := hf 2 _ rfl
  have t4 := hf 3 _ rfl
  change DataW.trod enc Tryz.prog W base sp held n' 9 (([c0, c1, c2, c3].drop 0).take (Tryz.prog.cellsOf 9)) = ys[0]? at t1
  change DataW.trod enc Tryz.prog W base sp held n' 4 (([c0, c1, c2, c3].drop 1).take (Tryz.prog.cellsOf 4)) = ys[1]? at t2
  change DataW.trod enc Tryz.prog W base sp held n' 4 (([c0, c1, c2, c3].drop 2).take (Tryz.prog.cellsOf 4)) = ys[2]? at t3
  change DataW.trod enc Tryz.prog W base sp held n' 9 (([c0, c1, c2, c3].drop 3).take (Tryz.prog.cellsOf 9)) = ys[3]? at t4
  rw [sizesT.2.1] at t1 t4
  rw [sizesT.2.2] at t2 t3
  match ys, hyl with
  | [y0, y1, y2, y3], _ =>
    obtain ⟨s1, e1, _⟩ := DataW.trod_string Tryz.underlying9 (show DataW.trod enc Tryz.prog W base sp held n' 9 [c0] = some y0 from t1)
    obtain ⟨b2, e2, _⟩ := DataW.trod_bool Tryz.underlying4 (show DataW.trod enc Tryz.prog W base sp held n' 4 [c1] = some y1 from t2)
    obtain ⟨b3, e3, _⟩ := DataW.trod_bool Tryz.underlying4 (show DataW.trod enc Tryz.prog W base sp held n' 4 [c2] = some y2 from t3)
    obtain ⟨s4, e4, _⟩ := DataW.trod_string Tryz.underlying9 (show DataW.trod enc Tryz.prog W base sp held n' 9 [c3] = some y3 from t4)
    cases e1; cases e2; cases e3; cases e4
    exact ⟨(s1.data.toList, b2, b3, s4.data.toList), by simp, trivial⟩
set_option maxRecDepth 100000 in
theorem item_of_trod {b0 : Nat} {r : Reach} {v : Value} {d : DataW H} {ps : List MemPlace}
    (hval : Value.okWide Tryz.prog W r b0 65 v) (h : DataW.Trod enc Tryz.prog W base sp held 65 v d ps) : ∃ x : Itm, v = ItV x := by
  obtain ⟨cs, rfl, hsz⟩ := okWide_struct Tryz.underlying65 hval
  obtain ⟨l, rfl⟩ : ∃ l : List Value, cs = l.toArray := ⟨cs.toList, by simp⟩
  obtain ⟨fuel, hfu⟩ := h
  obtain ⟨x, e, -⟩ := itc_of_trod fuel l (d, ps) (by simpa [Value.cells] using hfu) (by simpa using hsz.trans sizesT.1)
  exact ⟨x, by rw [e]⟩
set_option maxRecDepth 100000 in
theorem items_of_trod {b0 : Nat} {r : Reach} {v : Value} {d : DataW H} {ps : List MemPlace}
    (hval : Value.okWide Tryz.prog W r b0 52 v) (h : DataW.Trod enc Tryz.prog W base sp held 52 v d ps) : ∃ xs : List Itm, ItRow W v xs := by
  obtain ⟨a0, n0, c0, rfl⟩ := okWide_slice Tryz.underlying52 hval
  obtain ⟨fuel, hf⟩ := h
  obtain ⟨xs, hr, _⟩ := rowK_of_trod (K := 4) itC (fun _ => True) (by omega) (fun _ => rfl) Tryz.underlying52 sizesT.1 itc_of_trod (show DataW.trod enc Tryz.prog W base sp held fuel 52 [.slice a0 n0 c0] = some _ from hf)
  exact ⟨xs, hr⟩
end
end Go.Proofs.YtaompdnnkfmjhaaGreatDoor
