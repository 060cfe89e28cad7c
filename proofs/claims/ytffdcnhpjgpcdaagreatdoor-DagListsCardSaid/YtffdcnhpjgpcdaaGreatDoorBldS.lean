/- (*strings.Builder).WriteString, at this program. -/
import Derived.Test.YtffdcnhpjgpcdaaGreatDoorBld
import Derived.Lib.AppendStr
namespace Go.Proofs.YtffdcnhpjgpcdaaGreatDoor
open Go.RowKit

theorem strCells_bytes (t : List UInt8) : Lib.strCells (⟨t.toArray⟩ : ByteArray) = Lib.byteCells t := by
  simp [Lib.strCells, Lib.byteCells]

set_option maxHeartbeats 2000000 in
set_option maxRecDepth 100000 in
theorem wstr_walk (B b : Nat) (l t : List UInt8) (w : World) (h : IsBld B b l w) (hlen : l.length ≤ 1100000) (htl : t.length ≤ 1100000) (ht0 : 0 < t.length) (hBw : B ≤ w.heap.size) :
    Calls Tryz.prog 77 #[.pointer (some ⟨b, 0, none⟩), S t] w fun e w' => (∃ q, e = .returned (.tuple #[.int .i64 q, .nilIface])) ∧ (IsBld B b (l ++ t) w' ∧ Below B w w') := by
  obtain ⟨i0, hi, hz0, hz1, hz2⟩ := info_parts infoByte
  have C := ccheck_walk B b _ w h
  have hll : (Lib.byteCells l).length = l.length := by simp [Lib.byteCells]
  have hla : (Lib.byteCells (l ++ t)) = Lib.byteCells l ++ Lib.strCells (⟨t.toArray⟩ : ByteArray) := by rw [strCells_bytes]; simp [Lib.byteCells]
  have hbl : (Lib.byteCells l).length ≤ 1100000 := by omega
  have hts : (⟨t.toArray⟩ : ByteArray).size = t.length := by simp [ByteArray.size]
  have HTS := Lib.hid hts
  have HT0 := Lib.hid ht0
  unfold IsBld
  rw [hla]
  clear h hll hla hts ht0
  generalize Lib.byteCells l = bs at *
  go_enter Tryz.func77, Tryz.ntmps77
  go_wp2_with fail
  refine C.mono ?_
  rintro e w1 ⟨rfl, h1, hb1⟩
  obtain ⟨hB, v, hbk, hown, hne⟩ := h1
  have c0 : w1.cell? ⟨b, 0, none⟩ = some (.pointer (some ⟨b, 0, none⟩)) := by rw [Lib.cell_of_heap hbk]; rfl
  have c1 : w1.cell? ⟨b, 1, none⟩ = some v := by rw [Lib.cell_of_heap hbk]; rfl
  have hsz1 := hb1.size
  go_wp2_with (at_builtin; refine Lib.wpList_append_own_string _ rfl _ _ 90 9 rfl B 5 i0 Tryz.underlying90 Tryz.underlying9 hi hz0 hz1 hz2 _ _ _ rfl hown (⟨t.toArray⟩ : ByteArray) rfl (by unfold maxLen; have := HTS.out; omega) (by have := HTS.out; omega) (by omega) ?_)
  intro v' w2 hown' hgrow _
  have hlt : b < w1.heap.size := by
    rcases Nat.lt_or_ge b w1.heap.size with h' | h'
    · exact h'
    · simp [Array.getElem?_eq_none h'] at hbk
  have hb2 : w2.heap[b]? = some (.cells #[.pointer (some ⟨b, 0, none⟩), v] 114 (0, 0)) := by
    rw [hgrow.block b hlt (fun e => hne e.symm)]
    exact hbk
  have d0 : w2.cell? ⟨b, 0, none⟩ = some (.pointer (some ⟨b, 0, none⟩)) := by rw [Lib.cell_of_heap hb2]; rfl
  have d1 : w2.cell? ⟨b, 1, none⟩ = some v := by rw [Lib.cell_of_heap hb2]; rfl
  have f1 : w2.frozen? ⟨b, 1, none⟩ = false := Lib.frozen_of_heap hb2 1
  obtain ⟨g, cap, rfl⟩ : ∃ g cap, v' = .slice (some ⟨g, 0, none⟩) (bs.length + t.length) cap := by
    rcases hown'.2 with ⟨_, h0⟩ | ⟨g, cap, cur, hv, _⟩
    · have := HTS.out; have := HT0.out; omega
    · exact ⟨g, cap, hv⟩
  have HOWN := Lib.hid hown'
  have HGR := Lib.hid hgrow
  have HOW := Lib.hid hown
  clear hown' hgrow hown
  have HL2 := Lib.hid (show (bs ++ Lib.strCells (⟨t.toArray⟩ : ByteArray)).length = bs.length + t.length by rw [strCells_bytes]; simp [Lib.byteCells])
  go_wp2
  go_ret2
  refine ⟨⟨_, rfl⟩, .inr ?_, ?_⟩
  · rw [← HL2.out]
    exact Lib.BuilderAt.put (T := 114) (e := 5) hB hb2 (bs' := bs ++ Lib.strCells (⟨t.toArray⟩ : ByteArray)) (by rw [HL2.out]; exact HOWN.out) (by decide)
  · exact (hb1.grown HGR.out (by omega) (fun k hk => (HOW.out.lt k hk).1)).setCell (p := ⟨b, 1, none⟩) hB _
end Go.Proofs.YtffdcnhpjgpcdaaGreatDoor
