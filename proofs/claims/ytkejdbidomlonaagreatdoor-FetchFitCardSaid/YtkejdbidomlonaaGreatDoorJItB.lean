/- A tree's items in memory. The fetcher's state in memory, and what a step leaves of it. strings.Builder: copyCheck and WriteByte, at this program. (*strings.Builder).WriteString, at this program. -/
import Derived.Test.YtkejdbidomlonaaGreatDoorJNodeFit
import Derived.Test.YtkejdbidomlonaaGreatDoorTreePlain
import Derived.Test.YtkejdbidomlonaaGreatDoorJNodesL
import Derived.Test.YtkejdbidomlonaaGreatDoorJPlain
import Derived.Test.YtkejdbidomlonaaGreatDoorJR11b
import Derived.Test.YtkejdbidomlonaaGreatDoorShelf
import Derived.Lib.AppendStr
namespace Go.Proofs.YtkejdbidomlonaaGreatDoor
open Go.RowKit

abbrev itC (x : Itm) : List Value := [S x.1, .bool x.2.1, .bool x.2.2.1, S x.2.2.2]
abbrev ItV (x : Itm) : Value := .agg #[S x.1, .bool x.2.1, .bool x.2.2.1, S x.2.2.2]
abbrev ItRow := Row itC
theorem infoIt : (Tryz.prog.info? 50).map (fun i => (i.zero, i.size, i.bytes)) = some (some (.agg #[.string ⟨#[]⟩, .bool false, .bool false, .string ⟨#[]⟩]), 4, 40) := by kernel_rfl
theorem itC_len (x : Itm) : (itC x).length = 4 := rfl
theorem it_cells {w : World} {b o : Nat} {xs : List Itm} (h : ∀ j x, xs[j]? = some x → ∀ i u, (itC x)[i]? = some u → w.cell? ⟨b, o + j * (itC x).length + i, none⟩ = some u) {j : Nat} (hj : j < xs.length) :
    w.cell? ⟨b, o + j * 4, none⟩ = some (S xs[j].1) ∧ w.cell? ⟨b, o + j * 4 + 1, none⟩ = some (.bool xs[j].2.1) ∧ w.cell? ⟨b, o + j * 4 + 2, none⟩ = some (.bool xs[j].2.2.1) ∧ w.cell? ⟨b, o + j * 4 + 3, none⟩ = some (S xs[j].2.2.2) :=
  ⟨h j xs[j] (by simp [hj]) 0 _ rfl, h j xs[j] (by simp [hj]) 1 _ rfl, h j xs[j] (by simp [hj]) 2 _ rfl, h j xs[j] (by simp [hj]) 3 _ rfl⟩
theorem it4_one (x : Itm) : ∀ u ∈ itC x, u.oneCell' = true := by
  intro u hu; simp at hu; rcases hu with rfl | rfl | rfl | rfl <;> rfl
theorem it_one (l : List Itm) : ∀ u ∈ l.flatMap itC, u.oneCell' = true := flat_oneK (fun x _ => it4_one x)
/-- An item's zero, in a box. -/
abbrev zC : Array Value := #[.string ⟨#[]⟩, .bool false, .bool false, .string ⟨#[]⟩]
end Go.Proofs.YtkejdbidomlonaaGreatDoor

namespace Go.Proofs.YtkejdbidomlonaaGreatDoor
open Go.RowKit

/-- The fetcher's box: the objects, the items so far (a row of its own), how many bytes. -/
structure FSt (B b : Nat) (w : World) (la : Option Addr) (lc : Nat) (o : List Snp) (ov : Value) (st : StC) : Prop where
  box : w.heap[b]? = some (.cells #[.slice la o.length lc, ov, .int .i64 (st.2 : Nat)] 55 (0, 0))
  own : w.ownsRow B 50 4 ov st.1.length (st.1.flatMap itC)
  lo : B ≤ b
/-- What lies below n stays, but the box and the row's own block. -/
structure FGot (b n : Nat) (w w' : World) (ov v' : Value) : Prop where
  os : w'.os = w.os
  tape : w'.tape = w.tape
  output : w'.output = w.output
  size : w.heap.size ≤ w'.heap.size
  block : ∀ k, k < n → k < w.heap.size → k ≠ b → some k ≠ ov.ownBlock → w'.heap[k]? = w.heap[k]?
  sep : v'.ownBlock = ov.ownBlock ∨ ∃ j, v'.ownBlock = some j ∧ n ≤ j ∧ w.heap.size ≤ j
section
variable {B b n m : Nat} {w wr w' : World} {la : Option Addr} {lc : Nat} {o : List Snp} {ov v v' : Value} {st : StC}
theorem FGot.start (b n : Nat) (w : World) (ov : Value) : FGot b n w w ov ov := ⟨rfl, rfl, rfl, Nat.le_refl _, fun _ _ _ _ _ => rfl, .inl rfl⟩
theorem FGot.trans (h : FGot b n w wr ov v) (h2 : FGot b m wr w' v v') (hnm : n ≤ m) : FGot b n w w' ov v' := by
  refine ⟨h2.os.trans h.os, h2.tape.trans h.tape, h2.output.trans h.output, Nat.le_trans h.size h2.size, fun k hk hk2 hb hne => ?_, ?_⟩
  · refine (h2.block k (by omega) (Nat.lt_of_lt_of_le hk2 h.size) hb fun e => ?_).trans (h.block k hk hk2 hb hne)
    rcases h.sep with hs | ⟨j, hj, hj2, hj3⟩
    · exact hne (e.trans hs)
    · rw [hj] at e; injection e with e; omega
  · rcases h2.sep with hs | ⟨j, hj, hj2, hj3⟩
    · rw [hs]; exact h.sep
    · exact .inr ⟨j, hj, by omega, Nat.le_trans h.size hj3⟩
theorem FGot.step (h : FGot b n w wr ov v) (h1 : w'.os = wr.os) (h2 : w'.tape = wr.tape) (h3 : w'.output = wr.output) (h4 : wr.heap.size ≤ w'.heap.size) (hk : ∀ k, k < wr.heap.size → k < n → k ≠ b → w'.heap[k]? = wr.heap[k]?) : FGot b n w w' ov v :=
  ⟨h1.trans h.os, h2.trans h.tape, h3.trans h.output, Nat.le_trans h.size h4, fun k hk1 hk2 hb hne => (hk k (Nat.lt_of_lt_of_le hk2 h.size) hk1 hb).trans (h.block k hk1 hk2 hb hne), h.sep⟩
theorem FGot.below (h : FGot b n w wr ov v) (hb : Below wr.heap.size wr w') : FGot b n w w' ov v := h.step hb.os hb.tape hb.output hb.size fun k hk _ _ => hb.block k hk
theorem FGot.set (h : FGot b n w wr ov v) (j : Nat) (u : Value) : FGot b n w (wr.setCell ⟨b, j, none⟩ u) ov v := h.step rfl rfl rfl (by simp) fun k _ _ hne => Below.heap_setCell _ _ _ _ hne
theorem FSt.below (h : FSt B b w la lc o ov st) (hb : Below w.heap.size w w') : FSt B b w' la lc o ov st := ⟨(hb.block _ (heap_lt h.box)).trans h.box, own_on h.own hb, h.lo⟩
theorem FSt.ne (h : FSt B b w la lc o ov st) : ov.ownBlock ≠ some b := by
  intro e
  rcases h.own.2 with ⟨h1, _⟩ | ⟨g, cap, cur, h1, _, hg, _⟩
  · rw [h1] at e; simp [Value.ownBlock] at e
  · rw [h1] at e; simp only [Value.ownBlock, Option.some.injEq] at e
    subst e
    have hb := h.box
    rw [hg] at hb
    injection hb with hb
    injection hb with _ hb
    exact absurd hb (by decide)
/-- Memory ahead of the call's stays. -/
theorem FGot.base (h : FGot b n w w' ov v') {W0 : World} (hw0 : Below W0.heap.size W0 w) (hn : W0.heap.size ≤ n) (hb : W0.heap.size ≤ b) (ho : ∀ j, ov.ownBlock = some j → W0.heap.size ≤ j) : Below W0.heap.size W0 w' :=
  ⟨h.os.trans hw0.os, h.tape.trans hw0.tape, h.output.trans hw0.output, Nat.le_trans hw0.size h.size,
    fun k hk => (h.block k (by omega) (by have := hw0.size; omega) (by omega) (fun e => by have := ho k e.symm; omega)).trans (hw0.block k hk)⟩
end
/-- How a step ends: nil, or a fault with a number. -/
def ErrC (c : Int) (ev : Value) (w' : World) : Prop := (c = 0 ∧ ev = .nilIface) ∨ (c ≠ 0 ∧ c ∈ numsL ∧ ∃ (g : Nat) (path : List UInt8), ev = .iface 114 (.pointer (some ⟨g, 0, none⟩)) ∧ w'.heap[g]? = some (.cells #[.int .i64 c, S path] 116 (0, 0)))
theorem ErrC.below {c : Int} {ev : Value} {w w' : World} (h : ErrC c ev w) (hb : Below w.heap.size w w') : ErrC c ev w' := h.imp id fun ⟨h1, h2, g, q, h3, h4⟩ => ⟨h1, h2, g, q, h3, (hb.block _ (heap_lt h4)).trans h4⟩
end Go.Proofs.YtkejdbidomlonaaGreatDoor

namespace Go.Proofs.YtkejdbidomlonaaGreatDoor
open Go.RowKit

theorem bldSize : (Tryz.prog.info? 154).map (·.size) = some 2 := by kernel_rfl
theorem bldLies : liesAt Tryz.prog Tryz.prog.depth 154 (2 / Tryz.prog.cellsOf 154) 0 154 1 = true := by kernel_rfl
abbrev IsBld (B b : Nat) (l : List UInt8) (w : World) : Prop := Lib.IsBuilder 154 5 B b (Lib.byteCells l) w

set_option maxHeartbeats 1100000 in
set_option maxRecDepth 100000 in
theorem ccheck_walk (B b : Nat) (bs : List Value) (w : World) (h : Lib.IsBuilder 154 5 B b bs w) :
    Calls Tryz.prog 128 #[.pointer (some ⟨b, 0, none⟩)] w fun e w' => e = .returned (.tuple #[]) ∧ (Lib.BuilderAt 154 5 B b (.pointer (some ⟨b, 0, none⟩)) bs w' ∧ Below B w w') := by
  obtain ⟨j, hj, hjs⟩ := Option.map_eq_some_iff.1 bldSize
  rcases h with h | h
  · have h0 := h.cell0
    have hsh := h.shape
    have hfz := h.frozen0
    have HB := Lib.hid h
    clear h
    go_enter Tryz.func128, Tryz.ntmps128
    go_wp2
    rw [Lib.run_to_unsafe w ⟨b, 0, none⟩ Tryz.underlying152 Tryz.underlying180 hj (by rw [hjs]; decide) hsh (Nat.zero_lt_succ 1)]
    simp only [Result.andThen]
    rw [Oper.upon_value]
    go_wp2
    rw [run_callFunc_extern Tryz.func152 (by kernel_rfl) (by kernel_rfl) (by kernel_rfl) (e := Extern.AbiNoEscape.same) (by kernel_rfl)]
    rw [Lib.run_noEscape]
    simp only [Result.andThen]
    rw [Oper.upon_value]
    go_wp2
    rw [Lib.run_from_unsafe w ⟨b, 0, none⟩ Tryz.underlying180 Tryz.underlying152 hj hsh bldLies]
    simp only [Result.andThen]
    rw [Oper.upon_value]
    go_wp2
    go_end0
    exact ⟨rfl, HB.out.used _, (Below.refl B w).setCell (p := ⟨b, 0, none⟩) HB.out.1 _⟩
  · have h0 := h.cell0
    have HB := Lib.hid h
    clear h
    go_enter Tryz.func128, Tryz.ntmps128
    go_wp2
    rw [Lib.run_neq_ptr_same w _ Tryz.underlying152 hj]
    go_wp2
    go_end0
    exact ⟨rfl, HB.out, Below.refl B _⟩

set_option maxHeartbeats 2000000 in
set_option maxRecDepth 100000 in
theorem wbyte_walk (B b : Nat) (l : List UInt8) (c : UInt8) (cv : Int) (w : World) (hcv : cv = (c.toNat : Int)) (h : IsBld B b l w) (hlen : l.length ≤ 1100000) (hBw : B ≤ w.heap.size) :
    Calls Tryz.prog 125 #[.pointer (some ⟨b, 0, none⟩), .int .u8 cv] w fun e w' => e = .returned .nilIface ∧ (IsBld B b (l ++ [c]) w' ∧ Below B w w') := by
  obtain ⟨i0, hi, hz0, hz1, hz2⟩ := info_parts infoByte
  subst hcv
  have C := ccheck_walk B b _ w h
  have hll : (Lib.byteCells l).length = l.length := by simp [Lib.byteCells]
  have HLL := Lib.hid hll
  have hla : (Lib.byteCells (l ++ [c])) = Lib.byteCells l ++ [.int .u8 (c.toNat : Int)] := by simp [Lib.byteCells]
  have HLA := Lib.hid hla
  have hbl : (Lib.byteCells l).length ≤ 1100000 := by omega
  unfold IsBld
  rw [hla]
  clear h hll hla
  generalize Lib.byteCells l = bs at *
  go_enter Tryz.func125, Tryz.ntmps125
  go_wp2_with fail
  refine C.mono ?_
  rintro e w1 ⟨rfl, h1, hb1⟩
  obtain ⟨hB, v, hbk, hown, hne⟩ := h1
  have c0 : w1.cell? ⟨b, 0, none⟩ = some (.pointer (some ⟨b, 0, none⟩)) := by rw [Lib.cell_of_heap hbk]; rfl
  have c1 : w1.cell? ⟨b, 1, none⟩ = some v := by rw [Lib.cell_of_heap hbk]; rfl
  have hsz1 := hb1.size
  go_wp2_with (at_builtin; refine wpList_append_own _ rfl _ _ 89 rfl B 5 i0 (.int .u8 0) 1 1 Tryz.underlying89 hi hz0 hz1 hz2 rfl (by decide) _ _ _ rfl (hown.alloc _) ⟨w1.heap.size, 0, none⟩ 1 1 [.int .u8 (c.toNat : Int)] rfl rfl (new_cell_at rfl _ _) (by intro u hu; simp at hu; subst hu; rfl) (by unfold maxLen; omega) (by omega) (by simp; omega) ?_)
  intro v' w2 hown' hgrow _
  have hlt : b < w1.heap.size := by
    rcases Nat.lt_or_ge b w1.heap.size with h' | h'
    · exact h'
    · simp [Array.getElem?_eq_none h'] at hbk
  have hb2 : w2.heap[b]? = some (.cells #[.pointer (some ⟨b, 0, none⟩), v] 154 (0, 0)) := by
    rw [hgrow.block b (by simp; omega) (fun e => hne e.symm), Lib.alloc_old w1 _ b hlt]
    exact hbk
  have d0 : w2.cell? ⟨b, 0, none⟩ = some (.pointer (some ⟨b, 0, none⟩)) := by rw [Lib.cell_of_heap hb2]; rfl
  have d1 : w2.cell? ⟨b, 1, none⟩ = some v := by rw [Lib.cell_of_heap hb2]; rfl
  have f1 : w2.frozen? ⟨b, 1, none⟩ = false := Lib.frozen_of_heap hb2 1
  obtain ⟨g, cap, rfl⟩ : ∃ g cap, v' = .slice (some ⟨g, 0, none⟩) (bs.length + 1) cap := by
    rcases hown'.2 with ⟨_, h0⟩ | ⟨g, cap, cur, hv, _⟩
    · omega
    · exact ⟨g, cap, hv⟩
  go_wp2
  go_ret
  refine ⟨rfl, .inr ?_, ?_⟩
  · exact Lib.BuilderAt.put (T := 154) (e := 5) hB hb2 (bs' := bs ++ [.int .u8 (c.toNat : Int)]) (by simpa using hown') (by decide)
  · exact ((hb1.alloc (by omega) _).grown hgrow (by simp; omega) (fun k hk => (hown.lt k hk).1)).setCell (p := ⟨b, 1, none⟩) hB _

theorem bstring_walk (B b : Nat) (l : List UInt8) (w : World) (h : IsBld B b l w) (hBw : B ≤ w.heap.size) :
    Calls Tryz.prog 94 #[.pointer (some ⟨b, 0, none⟩)] w fun e w' => e = .returned (S l) ∧ Below B w w' := Tryz.Builder_String_any B b l w h hBw
end Go.Proofs.YtkejdbidomlonaaGreatDoor

namespace Go.Proofs.YtkejdbidomlonaaGreatDoor
open Go.RowKit

theorem strCells_bytes (t : List UInt8) : Lib.strCells (⟨t.toArray⟩ : ByteArray) = Lib.byteCells t := by
  simp [Lib.strCells, Lib.byteCells]

set_option maxHeartbeats 2000000 in
set_option maxRecDepth 100000 in
theorem wstr_walk (B b : Nat) (l t : List UInt8) (w : World) (h : IsBld B b l w) (hlen : l.length ≤ 1100000) (htl : t.length ≤ 1100000) (ht0 : 0 < t.length) (hBw : B ≤ w.heap.size) :
    Calls Tryz.prog 93 #[.pointer (some ⟨b, 0, none⟩), S t] w fun e w' => (∃ q, e = .returned (.tuple #[.int .i64 q, .nilIface])) ∧ (IsBld B b (l ++ t) w' ∧ Below B w w') := by
  obtain ⟨i0, hi, hz0, hz1, hz2⟩ := info_parts infoByte
  have C := ccheck_walk B b _ w h
  have hll : (Lib.byteCells l).length = l.length := by simp [Lib.byteCells]
  have hla : (Lib.byteCells (l ++ t)) = Lib.byteCells l ++ Lib.strCells (⟨t.toArray⟩ : ByteArray) := by rw [strCells_bytes]; simp [Lib.byteCells]
  have hbl : (Lib.byteCells l).length ≤ 1100000 := by omega
  have hts : (⟨t.toArray⟩ : ByteArray).size = t.length := by simp [ByteArray.size]
  have HTS := Lib.hid hts
  have HT0 := Lib.hid ht0
  unfold IsBld
  rw [hla]
  clear h hll hla hts ht0
  generalize Lib.byteCells l = bs at *
  go_enter Tryz.func93, Tryz.ntmps93
  go_wp2_with fail
  refine C.mono ?_
  rintro e w1 ⟨rfl, h1, hb1⟩
  obtain ⟨hB, v, hbk, hown, hne⟩ := h1
  have c0 : w1.cell? ⟨b, 0, none⟩ = some (.pointer (some ⟨b, 0, none⟩)) := by rw [Lib.cell_of_heap hbk]; rfl
  have c1 : w1.cell? ⟨b, 1, none⟩ = some v := by rw [Lib.cell_of_heap hbk]; rfl
  have hsz1 := hb1.size
  go_wp2_with (at_builtin; refine Lib.wpList_append_own_string _ rfl _ _ 89 9 rfl B 5 i0 Tryz.underlying89 Tryz.underlying9 hi hz0 hz1 hz2 _ _ _ rfl hown (⟨t.toArray⟩ : ByteArray) rfl (by unfold maxLen; have := HTS.out; omega) (by have := HTS.out; omega) (by omega) ?_)
  intro v' w2 hown' hgrow _
  have hlt : b < w1.heap.size := by
    rcases Nat.lt_or_ge b w1.heap.size with h' | h'
    · exact h'
    · simp [Array.getElem?_eq_none h'] at hbk
  have hb2 : w2.heap[b]? = some (.cells #[.pointer (some ⟨b, 0, none⟩), v] 154 (0, 0)) := by
    rw [hgrow.block b hlt (fun e => hne e.symm)]
    exact hbk
  have d0 : w2.cell? ⟨b, 0, none⟩ = some (.pointer (some ⟨b, 0, none⟩)) := by rw [Lib.cell_of_heap hb2]; rfl
  have d1 : w2.cell? ⟨b, 1, none⟩ = some v := by rw [Lib.cell_of_heap hb2]; rfl
  have f1 : w2.frozen? ⟨b, 1, none⟩ = false := Lib.frozen_of_heap hb2 1
  obtain ⟨g, cap, rfl⟩ : ∃ g cap, v' = .slice (some ⟨g, 0, none⟩) (bs.length + t.length) cap := by
    rcases hown'.2 with ⟨_, h0⟩ | ⟨g, cap, cur, hv, _⟩
    · have := HTS.out; have := HT0.out; omega
    · exact ⟨g, cap, hv⟩
  have HOWN := Lib.hid hown'
  have HGR := Lib.hid hgrow
  have HOW := Lib.hid hown
  clear hown' hgrow hown
  have HL2 := Lib.hid (show (bs ++ Lib.strCells (⟨t.toArray⟩ : ByteArray)).length = bs.length + t.length by rw [strCells_bytes]; simp [Lib.byteCells])
  go_wp2
  go_ret2
  refine ⟨⟨_, rfl⟩, .inr ?_, ?_⟩
  · rw [← HL2.out]
    exact Lib.BuilderAt.put (T := 154) (e := 5) hB hb2 (bs' := bs ++ Lib.strCells (⟨t.toArray⟩ : ByteArray)) (by rw [HL2.out]; exact HOWN.out) (by decide)
  · exact (hb1.grown HGR.out (by omega) (fun k hk => (HOW.out.lt k hk).1)).setCell (p := ⟨b, 1, none⟩) hB _
end Go.Proofs.YtkejdbidomlonaaGreatDoor
