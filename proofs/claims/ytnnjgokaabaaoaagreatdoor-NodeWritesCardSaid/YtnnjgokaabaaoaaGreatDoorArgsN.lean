/- A statement's arguments, opened: nodes. -/
import Derived.Test.YtnnjgokaabaaoaaGreatDoorArgsK
import Derived.Test.YtnnjgokaabaaoaaGreatDoorNodeB
namespace Go.Proofs.YtnnjgokaabaaoaaGreatDoor
open Go.ChangeShapes Go.WideShapes Go.ChangeAt Go.RowKit Go.Deep Go.Joins

theorem listN2 {α : Type} {l : List α} (h : l.length = 2) : ∃ a b, l = [a, b] := by
  match l, h with
  | [a, b], _ => exact ⟨a, b, rfl⟩
theorem listN4 {α : Type} {l : List α} (h : l.length = 4) : ∃ a b c d, l = [a, b, c, d] := by
  match l, h with
  | [a, b, c, d], _ => exact ⟨a, b, c, d, rfl⟩
theorem sizesN : Tryz.prog.cellsOf 39 = 2 ∧ Tryz.prog.cellsOf 42 = 4 ∧ Tryz.prog.cellsOf 25 = 4 ∧ Tryz.prog.cellsOf 9 = 1 ∧ Tryz.prog.cellsOf 3 = 1 ∧ Tryz.prog.cellsOf 4 = 1 ∧ Tryz.prog.cellsOf 22 = 1 ∧ Tryz.prog.cellsOf 23 = 1 := by
  refine ⟨?_, ?_, ?_, ?_, ?_, ?_, ?_, ?_⟩ <;> kernel_rfl
section
variable {H : Type} {enc : TypeId × Value → H} {W : World} {base : Nat} {sp : Nat → Bool} {held : Bool}
set_option maxRecDepth 100000 in
theorem prt_of_trod (n : Nat) (cs : List Value) (y : DataW H × List MemPlace) (h : DataW.trod enc Tryz.prog W base sp held n 39 cs = some y) (hl : cs.length = 2) : ∃ o : Prt, cs = prtC o ∧ True := by
  obtain ⟨c0, c1, rfl⟩ := listN2 hl
  obtain ⟨ys, n', _, _, _, hyl, hf⟩ := DataW.trod_struct Tryz.underlying39 h
  have t1 := hf 0 _ rfl
  have t2 := hf 1 _ rfl
  change DataW.trod enc Tryz.prog W base sp held n' 9 (([c0, c1].drop 0).take (Tryz.prog.cellsOf 9)) = ys[0]? at t1
  change DataW.trod enc Tryz.prog W base sp held n' 3 (([c0, c1].drop 1).take (Tryz.prog.cellsOf 3)) = ys[1]? at t2
  rw [sizesN.2.2.2.1] at t1
  rw [sizesN.2.2.2.2.1] at t2
  match ys, hyl with
  | [y0, y1], _ =>
    obtain ⟨s, e1, _⟩ := DataW.trod_string Tryz.underlying9 (show DataW.trod enc Tryz.prog W base sp held n' 9 [c0] = some y0 from t1)
    obtain ⟨k, e2, _⟩ := DataW.trod_int Tryz.underlying3 (show DataW.trod enc Tryz.prog W base sp held n' 3 [c1] = some y1 from t2)
    cases e1; cases e2
    exact ⟨(s.data.toList, k), by simp, trivial⟩
set_option maxRecDepth 100000 in
theorem ent_of_trod (n : Nat) (cs : List Value) (y : DataW H × List MemPlace) (h : DataW.trod enc Tryz.prog W base sp held n 42 cs = some y) (hl : cs.length = 4) : ∃ o : Ent, cs = entC o ∧ True := by
  obtain ⟨c0, c1, c2, c3, rfl⟩ := listN4 hl
  obtain ⟨ys, n', _, _, _, hyl, hf⟩ := DataW.trod_struct Tryz.underlying42 h
  have t1 := hf 0 _ rfl
  have t2 := hf 1 _ rfl
  have t3 := hf 2 _ rfl
  have t4 := hf 3 _ rfl
  change DataW.trod enc Tryz.prog W base sp held n' 9 (([c0, c1, c2, c3].drop 0).take (Tryz.prog.cellsOf 9)) = ys[0]? at t1
  change DataW.trod enc Tryz.prog W base sp held n' 3 (([c0, c1, c2, c3].drop 1).take (Tryz.prog.cellsOf 3)) = ys[1]? at t2
  change DataW.trod enc Tryz.prog W base sp held n' 4 (([c0, c1, c2, c3].drop 2).take (Tryz.prog.cellsOf 4)) = ys[2]? at t3
  change DataW.trod enc Tryz.prog W base sp held n' 9 (([c0, c1, c2, c3].drop 3).take (Tryz.prog.cellsOf 9)) = ys[3]? at t4
  rw [sizesN.2.2.2.1] at t1 t4
  rw [sizesN.2.2.2.2.1] at t2
  rw [sizesN.2.2.2.2.2.1] at t3
  match ys, hyl with
  | [y0, y1, y2, y3], _ =>
    obtain ⟨s, e1, _⟩ := DataW.trod_string Tryz.underlying9 (show DataW.trod enc Tryz.prog W base sp held n' 9 [c0] = some y0 from t1)
    obtain ⟨k, e2, _⟩ := DataW.trod_int Tryz.underlying3 (show DataW.trod enc Tryz.prog W base sp held n' 3 [c1] = some y1 from t2)
    obtain ⟨bb, e3, _⟩ := DataW.trod_bool Tryz.underlying4 (show DataW.trod enc Tryz.prog W base sp held n' 4 [c2] = some y2 from t3)
    obtain ⟨s2, e4, _⟩ := DataW.trod_string Tryz.underlying9 (show DataW.trod enc Tryz.prog W base sp held n' 9 [c3] = some y3 from t4)
    cases e1; cases e2; cases e3; cases e4
    exact ⟨(s.data.toList, k, bb, s2.data.toList), by simp, trivial⟩
set_option maxRecDepth 100000 in
theorem nod_of_trod {b0 : Nat} {r : Reach} {v : Value} {d : DataW H} {ps : List MemPlace}
    (hval : Value.okWide Tryz.prog W r b0 25 v) (h : DataW.Trod enc Tryz.prog W base sp held 25 v d ps) : ∃ n vp ve, v = NodV n vp ve ∧ NodRow W n vp ve := by
  obtain ⟨cs, rfl, hsz⟩ := okWide_struct Tryz.underlying25 hval
  obtain ⟨l, rfl⟩ : ∃ l : List Value, cs = l.toArray := ⟨cs.toList, by simp⟩
  obtain ⟨c0, c1, c2, c3, rfl⟩ := listN4 (l := l) (by simpa using hsz.trans sizesN.2.2.1)
  obtain ⟨fuel, hfu⟩ := h
  obtain ⟨ys, n', _, _, _, hyl, hf⟩ := DataW.trod_struct Tryz.underlying25 hfu
  have t1 := hf 0 _ rfl
  have t2 := hf 1 _ rfl
  have t3 := hf 2 _ rfl
  have t4 := hf 3 _ rfl
  change DataW.trod enc Tryz.prog W base sp held n' 3 (([c0, c1, c2, c3].drop 0).take (Tryz.prog.cellsOf 3)) = ys[0]? at t1
  change DataW.trod enc Tryz.prog W base sp held n' 9 (([c0, c1, c2, c3].drop 1).take (Tryz.prog.cellsOf 9)) = ys[1]? at t2
  change DataW.trod enc Tryz.prog W base sp held n' 22 (([c0, c1, c2, c3].drop 2).take (Tryz.prog.cellsOf 22)) = ys[2]? at t3
  change DataW.trod enc Tryz.prog W base sp held n' 23 (([c0, c1, c2, c3].drop 3).take (Tryz.prog.cellsOf 23)) = ys[3]? at t4
  rw [sizesN.2.2.2.2.1] at t1
  rw [sizesN.2.2.2.1] at t2
  rw [sizesN.2.2.2.2.2.2.1] at t3
  rw [sizesN.2.2.2.2.2.2.2] at t4
  match ys, hyl with
  | [y0, y1, y2, y3], _ =>
    obtain ⟨k, e1, _⟩ := DataW.trod_int Tryz.underlying3 (show DataW.trod enc Tryz.prog W base sp held n' 3 [c0] = some y0 from t1)
    obtain ⟨s, e2, _⟩ := DataW.trod_string Tryz.underlying9 (show DataW.trod enc Tryz.prog W base sp held n' 9 [c1] = some y1 from t2)
    obtain ⟨xs, hr, _⟩ := rowK_of_trod prtC (fun _ => True) (by omega) (fun _ => rfl) Tryz.underlying22 sizesN.1 prt_of_trod (show DataW.trod enc Tryz.prog W base sp held n' 22 [c2] = some y2 from t3)
    obtain ⟨zs, hq, _⟩ := rowK_of_trod entC (fun _ => True) (by omega) (fun _ => rfl) Tryz.underlying23 sizesN.2.1 ent_of_trod (show DataW.trod enc Tryz.prog W base sp held n' 23 [c3] = some y3 from t4)
    cases e1; cases e2
    exact ⟨⟨k, s.data.toList, xs, zs⟩, c2, c3, by simp, hr, hq⟩
end
end Go.Proofs.YtnnjgokaabaaoaaGreatDoor
