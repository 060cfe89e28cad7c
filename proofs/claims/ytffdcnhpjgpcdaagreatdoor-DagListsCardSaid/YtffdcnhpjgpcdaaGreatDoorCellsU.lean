/- Rows of bytes as texts. -/
import Derived.Test.YtffdcnhpjgpcdaaGreatDoorCellsB
namespace Go.Proofs.YtffdcnhpjgpcdaaGreatDoor
open Go.RowKit

theorem infoByte : (Tryz.prog.info? 5).map (fun i => (i.zero, i.size, i.bytes)) = some (some (.int .u8 0), 1, 1) := by kernel_rfl

/-- A row of bytes that the call made, as a text. -/
theorem bytes_back {W : World} {base : Nat} {v : Value} {l : List UInt8} (h : W.ownsRow base 5 1 v l.length (Lib.byteCells l)) : (convert 90 9 v).run Tryz.prog W = .ok (.string ⟨l.toArray⟩) W := by
  obtain ⟨_, h⟩ := h
  rcases h with ⟨rfl, hn⟩ | ⟨g, cap, cur, rfl, _, hh, hc, hm, hs, ht⟩
  · have : l = [] := List.length_eq_zero_iff.1 hn
    subst this
    exact run_convert_bytes_nil W 90 5 Tryz.underlying90 Tryz.underlying5 0 0 9 Tryz.underlying9
  · refine run_convert_bytes_back W _ _ 5 _ _ l Tryz.underlying90 Tryz.underlying5 Tryz.underlying9 fun j hj => ?_
    have h1 : cur.toList[j]? = some (.int .u8 (l[j].toNat : Int)) := by
      have : (cur.toList.take (l.length * 1))[j]? = some (.int .u8 (l[j].toNat : Int)) := by rw [ht]; simp [Lib.byteCells, hj]
      rw [List.getElem?_take] at this
      split at this
      · exact this
      · cases this
    have e : ((⟨g, 0, none⟩ : Addr).add j) = ⟨g, j, none⟩ := by by_cases h0 : j = 0 <;> simp [Addr.add, h0]
    rw [e]
    simp only [World.cell?, hh]
    simpa using h1
end Go.Proofs.YtffdcnhpjgpcdaaGreatDoor
