/- A statement's arguments, opened: a collection; how long its rows can be. -/
import Derived.Test.YthjoaoakadaieaaBase
import Derived.Test.YthjoaoakadaieaaGcNote
import Derived.SliceStrings
import Derived.OpenShut
import Derived.ProofKit
import Derived.ChangeOld
import Derived.ChangeMaps5
namespace Go.Proofs.Ythjoaoakadaieaa
open Go.ChangeShapes Go.WideShapes Go.ChangeAt Go.RowKit

section
variable {H : Type} {enc : TypeId × Value → H} {W : World} {base : Nat} {sp : Nat → Bool} {held : Bool}
theorem listG3 {α : Type} {l : List α} (h : l.length = 3) : ∃ a b c, l = [a, b, c] := by
  match l, h with
  | [a, b, c], _ => exact ⟨a, b, c, rfl⟩
theorem sizesG : Try.prog.cellsOf 24 = 3 ∧ Try.prog.cellsOf 22 = 1 ∧ Try.prog.cellsOf 9 = 1 ∧ Try.prog.cellsOf 4 = 1 ∧ Try.prog.bytesOf 9 = 16 := by
  refine ⟨by kernel_rfl, by kernel_rfl, by kernel_rfl, by kernel_rfl, by kernel_rfl⟩

set_option maxRecDepth 100000 in
theorem row_of_trodG {fuel : Nat} {c0 : Value} {y : DataW H × List MemPlace} (hf : DataW.trod enc Try.prog W base sp held fuel 22 [c0] = some y) :
    ∃ xs, StrRow W c0 xs ∧ ∀ b, (y.1.weights Try.prog 22).all (· ≤ b) = true → xs.length * 16 ≤ b := by
  rcases open_strings Try.underlying22 Try.underlying9 (by kernel_rfl) hf with ⟨hc, hy⟩ | ⟨a, len, cap, ss, hc, _, hl, hm, hlen, hy, hcell, _⟩
  · simp at hc
    subst hc
    exact ⟨[], StrRow.nil W, fun b _ => by simp⟩
  · simp at hc
    subst hc
    have hle : len ≤ ss.length := by rw [hlen]; split <;> omega
    have hxl : ((ss.take len).map (·.data.toList)).length = len := by simp; omega
    refine ⟨(ss.take len).map (·.data.toList), ⟨some a, cap, by rw [hxl], by rw [hxl]; exact hl, hm, ?_⟩, fun b hb => ?_⟩
    · by_cases h0 : len = 0
      · exact .inl (List.eq_nil_of_length_eq_zero (by rw [hxl, h0]))
      · right
        have hz := hcell 0 (by omega)
        have hsp : a.spot = none := by
          simp only [Addr.add, if_true, World.cell?] at hz
          split at hz
          · split at hz
            · cases hz
            · cases hh : a.spot <;> simp_all
          · cases hz
        obtain ⟨b, o, s⟩ := a
        simp only at hsp
        subst hsp
        refine ⟨b, o, rfl, fun j x hx => ?_⟩
        rw [List.getElem?_map, Option.map_eq_some_iff] at hx
        obtain ⟨s, hs, rfl⟩ := hx
        rw [List.getElem?_take] at hs
        split at hs
        · have hj := (List.getElem?_eq_some_iff.1 hs).1
          have h1 := hcell j hj
          rw [Addr.add_lit] at h1
          rw [h1, List.getD_eq_getElem?_getD, hs]
          simp
        · cases hs
    · rw [hy] at hb
      simp only [DataW.weights, Try.underlying22, List.all_cons, Bool.and_eq_true, decide_eq_true_eq] at hb
      have h1 := hb.1
      rw [sizesG.2.2.2.2] at h1
      have h2 : (strs (H := H) (ss.take len)).length = len := by simp [strs]; omega
      rw [h2] at h1
      rw [hxl]
      omega

set_option maxRecDepth 100000 in
theorem gc_of_trod {b0 : Nat} {r : Reach} {v : Value} {d : DataW H} {ps : List MemPlace}
    (hval : Value.okWide Try.prog W r b0 24 v) (h : DataW.Trod enc Try.prog W base sp held 24 v d ps) :
    ∃ on qv mv q m, v = GcV on qv mv ∧ StrRow W qv q ∧ StrRow W mv m ∧ ∀ b, (d.weights Try.prog 24).all (· ≤ b) = true → q.length * 16 ≤ b ∧ m.length * 16 ≤ b := by
  obtain ⟨cs, rfl, hsz⟩ := okWide_struct Try.underlying24 hval
  obtain ⟨l, rfl⟩ : ∃ l : List Value, cs = l.toArray := ⟨cs.toList, by simp⟩
  obtain ⟨c0, c1, c2, rfl⟩ := listG3 (l := l) (by simpa using hsz.trans sizesG.1)
  obtain ⟨fuel, hfu⟩ := h
  obtain ⟨ys, n', _, hd, _, hyl, hf⟩ := DataW.trod_struct Try.underlying24 hfu
  have t1 := hf 0 _ rfl
  have t2 := hf 1 _ rfl
  have t3 := hf 2 _ rfl
  change DataW.trod enc Try.prog W base sp held n' 4 (([c0, c1, c2].drop 0).take (Try.prog.cellsOf 4)) = ys[0]? at t1
  change DataW.trod enc Try.prog W base sp held n' 22 (([c0, c1, c2].drop 1).take (Try.prog.cellsOf 22)) = ys[1]? at t2
  change DataW.trod enc Try.prog W base sp held n' 22 (([c0, c1, c2].drop 2).take (Try.prog.cellsOf 22)) = ys[2]? at t3
  rw [sizesG.2.2.2.1] at t1
  rw [sizesG.2.1] at t2 t3
  match ys, hyl, hd with
  | [y0, y1, y2], _, hd =>
    obtain ⟨bb, e1, _⟩ := DataW.trod_bool Try.underlying4 (show DataW.trod enc Try.prog W base sp held n' 4 [c0] = some y0 from t1)
    obtain ⟨q, hq, hqw⟩ := row_of_trodG (show DataW.trod enc Try.prog W base sp held n' 22 [c1] = some y1 from t2)
    obtain ⟨m, hm, hmw⟩ := row_of_trodG (show DataW.trod enc Try.prog W base sp held n' 22 [c2] = some y2 from t3)
    cases e1
    refine ⟨bb, c1, c2, q, m, rfl, hq, hm, fun b hb => ?_⟩
    simp only [Prod.mk.injEq] at hd
    rw [hd.1] at hb
    have hb2 : ((y0.1.weights Try.prog 4 ++ (y1.1.weights Try.prog 22 ++ (y2.1.weights Try.prog 22 ++ []))).all (· ≤ b)) = true := by
      have h9 := hb
      simp only [DataW.weights, Try.underlying24] at h9
      exact h9
    simp only [List.all_append, Bool.and_eq_true] at hb2
    exact ⟨hqw b hb2.2.1, hmw b hb2.2.2.1⟩
end
end Go.Proofs.Ythjoaoakadaieaa
