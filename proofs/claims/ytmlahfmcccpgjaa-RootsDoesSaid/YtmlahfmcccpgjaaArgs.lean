/- A statement's arguments, opened: a slice of texts. -/
import Derived.Test.YtmlahfmcccpgjaaBase
import Derived.SliceStrings
import Derived.OpenShut
import Derived.ProofKit
import Derived.ChangeOld
import Derived.ChangeMaps5
namespace Go.Proofs.Ytmlahfmcccpgjaa
open Go.ChangeShapes Go.WideShapes Go.ChangeAt Go.RowKit

theorem S_toList (s : ByteArray) : S s.data.toList = .string s := by cases s; simp

set_option maxRecDepth 100000 in
theorem row_of_trod {H : Type} {enc : TypeId × Value → H} {W : World} {base b0 : Nat} {sp : Nat → Bool} {held : Bool} {r : Reach} {v : Value} {d : DataW H} {ps : List MemPlace}
    (hval : Value.okWide Try.prog W r b0 22 v) (h : DataW.Trod enc Try.prog W base sp held 22 v d ps) : ∃ xs, StrRow W v xs := by
  obtain ⟨a0, n0, c0, rfl⟩ := okWide_slice Try.underlying22 hval
  obtain ⟨fuel, hf⟩ := h
  rcases open_strings Try.underlying22 Try.underlying9 (by kernel_rfl) hf with ⟨hc, _⟩ | ⟨a, len, cap, ss, hc, _, hl, hm, hlen, _, hcell, _⟩
  · simp [Value.cells] at hc
    obtain ⟨rfl, rfl, rfl⟩ := hc
    exact ⟨[], StrRow.nil W⟩
  · simp [Value.cells] at hc
    obtain ⟨rfl, rfl, rfl⟩ := hc
    have hle : n0 ≤ ss.length := by rw [hlen]; split <;> omega
    have hxl : ((ss.take n0).map (·.data.toList)).length = n0 := by simp; omega
    refine ⟨(ss.take n0).map (·.data.toList), some a, c0, by rw [hxl], by rw [hxl]; exact hl, hm, ?_⟩
    by_cases h0 : n0 = 0
    · exact .inl (List.eq_nil_of_length_eq_zero (by rw [hxl, h0]))
    · right
      have hz := hcell 0 (by omega)
      have hsp : a.spot = none := by
        simp only [Addr.add, if_true, World.cell?] at hz
        split at hz
        · split at hz
          · cases hz
          · cases hh : a.spot <;> simp_all
        · cases hz
      obtain ⟨b, o, s⟩ := a
      simp only at hsp
      subst hsp
      refine ⟨b, o, rfl, fun j x hx => ?_⟩
      rw [List.getElem?_map, Option.map_eq_some_iff] at hx
      obtain ⟨s, hs, rfl⟩ := hx
      rw [List.getElem?_take] at hs
      split at hs
      · have hj : j < ss.length := by omega
        have := hcell j hj
        rw [List.getD, hs] at this
        rw [S_toList]
        by_cases hj0 : j = 0
        · subst hj0; simpa [Addr.add] using this
        · simpa [Addr.add, hj0] using this
      · cases hs
end Go.Proofs.Ytmlahfmcccpgjaa
