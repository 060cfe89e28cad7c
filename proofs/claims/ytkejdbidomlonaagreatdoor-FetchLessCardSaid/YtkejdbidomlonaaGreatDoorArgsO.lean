/- A statement's arguments, opened: objects; how long they can be. -/
import Derived.Test.YtkejdbidomlonaaGreatDoorJLaw13B
import Derived.Test.YtkejdbidomlonaaGreatDoorJPlain
import Derived.Deep.SlicePairs
namespace Go.Proofs.YtkejdbidomlonaaGreatDoor
open Go.ChangeShapes Go.WideShapes Go.ChangeAt Go.RowKit Go.Deep Go.Joins

set_option maxRecDepth 100000 in
theorem sizesO : Tryz.prog.cellsOf 27 = 2 ∧ Tryz.prog.cellsOf 9 = 1 ∧ Tryz.prog.bytesOf 27 = 32 := by
  refine ⟨?_, ?_, ?_⟩ <;> kernel_rfl
theorem weightsAll_mem {H : Type} {P : Program} {e : TypeId} {b : Nat} : ∀ (l : List (DataW H)) (d : DataW H), d ∈ l → (DataW.weightsAll P e l).all (· ≤ b) = true → (d.weights P e).all (· ≤ b) = true
  | [], _, h, _ => by cases h
  | c :: l, d, h, hb => by
    rw [DataW.weightsAll, List.all_append, Bool.and_eq_true] at hb
    rcases List.mem_cons.1 h with rfl | h
    · exact hb.1
    · exact weightsAll_mem l d h hb.2
section
variable {H : Type} {enc : TypeId × Value → H} {W : World} {base : Nat} {sp : Nat → Bool} {held : Bool}
set_option maxRecDepth 100000 in
theorem objs_of_trod {fuel : Nat} {v : Value} {x : DataW H × List MemPlace} (h : DataW.trod enc Tryz.prog W base sp held fuel 30 [v] = some x) :
    ∃ xs : List Snp, SnpRow W v xs ∧ ∀ b, (x.1.weights Tryz.prog 30).all (· ≤ b) = true → xs.length * 32 ≤ b ∧ ∀ z ∈ xs, z.2.length ≤ b := by
  rcases open_slice_pairs Tryz.underlying30 Tryz.underlying27 sizesO.1 rfl rfl sizesO.2.1 sizesO.2.1 h with ⟨h1, _⟩ | ⟨a, len, cap, m, n, V0, V1, D0, D1, P0, P1, h1, _, hl, hm, hmm, hx, hi⟩
  · obtain rfl : v = .slice none 0 0 := by simpa using h1
    exact ⟨[], Row.nil _ W, fun b _ => by simp⟩
  · obtain rfl : v = .slice (some a) len cap := by simpa using h1
    have hle : len ≤ m := by rw [hmm]; split <;> omega
    have hs : ∀ i : Fin len, ∃ z : Snp, W.cell? (a.add (i.val * 2)) = some (S z.1) ∧ W.cell? (a.add (i.val * 2 + 1)) = some (S z.2) ∧ D1 i.val = .lit (.string z.2) := by
      intro i
      obtain ⟨q1, q2, q3, q4⟩ := hi i.val (by have := i.isLt; omega)
      obtain ⟨s1, e1, _⟩ := DataW.trod_string Tryz.underlying9 q3
      obtain ⟨s2, e2, e3⟩ := DataW.trod_string Tryz.underlying9 q4
      obtain ⟨e3, -⟩ := e3
      injection e1 with e1
      injection e2 with e2
      injection e3 with e3
      exact ⟨(s1.data.toList, s2.data.toList), by rw [q1, e1, S_toList], by rw [q2, e2, S_toList], e3⟩
    obtain ⟨g, hg⟩ := Classical.axiomOfChoice hs
    refine ⟨List.ofFn g, ?_, fun b hb => ?_⟩
    · by_cases h0 : len = 0
      · subst h0
        exact ⟨some a, cap, rfl, hl, hm, .inl rfl⟩
      · refine ⟨some a, cap, by simp, by simpa using hl, hm, .inr ?_⟩
        have hz := spot_none (hg ⟨0, by omega⟩).1
        obtain ⟨b, o, s⟩ := a
        have hs0 : s = none := by simpa [Addr.add] using hz
        subst hs0
        refine ⟨b, o, rfl, fun j x hx i u hu => ?_⟩
        rw [List.getElem?_ofFn] at hx
        split at hx
        · rename_i hj
          cases hx
          obtain ⟨h1, h2, _⟩ := hg ⟨j, hj⟩
          simp only [Addr.add_lit] at h1 h2
          match i, hu with
          | 0, hu => cases hu; exact h1
          | 1, hu => cases hu; exact h2
        · cases hx
    · rw [hx] at hb
      simp only [DataW.weights, Tryz.underlying30, List.all_cons, List.all_append, Bool.and_eq_true, decide_eq_true_eq] at hb
      obtain ⟨h1, h2, _⟩ := hb
      rw [sizesO.2.2] at h1
      refine ⟨by simp at h1 ⊢; omega, fun z hz => ?_⟩
      obtain ⟨i, hi2⟩ := List.getElem?_of_mem hz
      rw [List.getElem?_ofFn] at hi2
      split at hi2
      · rename_i hj
        cases hi2
        have h3 := weightsAll_mem (b := b) _ (DataW.agg [D0 i, D1 i]) (List.mem_map.2 ⟨i, List.mem_range.2 hj, rfl⟩) h2
        have h4 := (hg ⟨i, hj⟩).2.2
        simp only at h4
        rw [h4] at h3
        simp only [DataW.weights, Tryz.underlying27] at h3
        have h5 : ((D0 i).weights Tryz.prog 9 ++ ([(g ⟨i, hj⟩).2.length] ++ [])).all (· ≤ b) = true := h3
        simp only [List.all_append, List.all_cons, Bool.and_eq_true, decide_eq_true_eq] at h5
        exact h5.2.1.1
      · cases hi2
set_option maxRecDepth 100000 in
theorem objs_of_val {b0 : Nat} {r : Reach} {v : Value} {d : DataW H} {ps : List MemPlace} (hval : Value.okWide Tryz.prog W r b0 30 v) (h : DataW.Trod enc Tryz.prog W base sp held 30 v d ps) :
    ∃ xs : List Snp, SnpRow W v xs ∧ ∀ b, (d.weights Tryz.prog 30).all (· ≤ b) = true → xs.length * 32 ≤ b ∧ ∀ z ∈ xs, z.2.length ≤ b := by
  obtain ⟨a0, n0, c0, rfl⟩ := okWide_slice Tryz.underlying30 hval
  obtain ⟨fuel, hfu⟩ := h
  exact objs_of_trod (by simpa [Value.cells] using hfu)
end
set_option maxRecDepth 100000 in
theorem u8_of_valO {W : World} {r : Reach} {b0 : Nat} {v : Value} (h : Value.okWide Tryz.prog W r b0 5 v) : ∃ n : Nat, v = .int .u8 n ∧ n < 256 := by
  obtain ⟨n, rfl⟩ := okWide_int Tryz.underlying5 h
  have h2 := h
  simp [Value.okWide, Tryz.underlying5, Cell.okWide, Cell.ok, IntKind.has, IntKind.min, IntKind.max, IntKind.bits, IntKind.signed] at h2
  refine ⟨n.toNat, ?_, ?_⟩
  · congr 1; omega
  · omega
end Go.Proofs.YtkejdbidomlonaaGreatDoor
