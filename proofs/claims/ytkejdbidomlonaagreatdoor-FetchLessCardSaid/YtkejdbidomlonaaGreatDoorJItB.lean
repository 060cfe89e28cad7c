/- A tree's items in memory. The fetcher's state in memory, and what a step leaves of it. strings.Builder: copyCheck and WriteByte, at this program. (*strings.Builder).WriteString, at this program. A row that goes on by append: where it lies behind it. The fetcher's state under other steps: a builder beside it, its size, its items. errors.Is at a fault of fetch, against a number: Go's own text of it, walked (after the guide's toy on errors.Is). cmp.Compare at texts. -/
import Derived.Test.YtkejdbidomlonaaGreatDoorJNodeFit
import Derived.Test.YtkejdbidomlonaaGreatDoorJTreePlain
import Derived.Test.YtkejdbidomlonaaGreatDoorJNodesL
import Derived.Test.YtkejdbidomlonaaGreatDoorJPlain
import Derived.Test.YtkejdbidomlonaaGreatDoorJR11b
import Derived.Test.YtkejdbidomlonaaGreatDoorShelf
import Derived.Lib.AppendStr
import Derived.WalkKit
import Derived.LaidEql
import Derived.Stop.Asserts
import Derived.Lib.IfaceEq
import Derived.RowKitTokens
namespace Go.Proofs.YtkejdbidomlonaaGreatDoor
open Go.RowKit

abbrev itC (x : Itm) : List Value := [S x.1, .bool x.2.1, .bool x.2.2.1, S x.2.2.2]
abbrev ItV (x : Itm) : Value := .agg #[S x.1, .bool x.2.1, .bool x.2.2.1, S x.2.2.2]
abbrev ItRow := Row itC
theorem infoIt : (Tryz.prog.info? 50).map (fun i => (i.zero, i.size, i.bytes)) = some (some (.agg #[.string ⟨#[]⟩, .bool false, .bool false, .string ⟨#[]⟩]), 4, 40) := by kernel_rfl
theorem itC_len (x : Itm) : (itC x).length = 4 := rfl
theorem it_cells {w : World} {b o : Nat} {xs : List Itm} (h : ∀ j x, xs[j]? = some x → ∀ i u, (itC x)[i]? = some u → w.cell? ⟨b, o + j * (itC x).length + i, none⟩ = some u) {j : Nat} (hj : j < xs.length) :
    w.cell? ⟨b, o + j * 4, none⟩ = some (S xs[j].1) ∧ w.cell? ⟨b, o + j * 4 + 1, none⟩ = some (.bool xs[j].2.1) ∧ w.cell? ⟨b, o + j * 4 + 2, none⟩ = some (.bool xs[j].2.2.1) ∧ w.cell? ⟨b, o + j * 4 + 3, none⟩ = some (S xs[j].2.2.2) :=
  ⟨h j xs[j] (by simp [hj]) 0 _ rfl, h j xs[j] (by simp [hj]) 1 _ rfl, h j xs[j] (by simp [hj]) 2 _ rfl, h j xs[j] (by simp [hj]) 3 _ rfl⟩
theorem it4_one (x : Itm) : ∀ u ∈ itC x, u.oneCell' = true := by
  intro u hu; simp at hu; rcases hu with rfl | rfl | rfl | rfl <;> rfl
theorem it_one (l : List Itm) : ∀ u ∈ l.flatMap itC, u.oneCell' = true := flat_oneK (fun x _ => it4_one x)
/-- An item's zero, in a box. -/
abbrev zC : Array Value := #[.string ⟨#[]⟩, .bool false, .bool false, .string ⟨#[]⟩]
end Go.Proofs.YtkejdbidomlonaaGreatDoor

namespace Go.Proofs.YtkejdbidomlonaaGreatDoor
open Go.RowKit

/-- The fetcher's box: the objects, the items so far (a row of its own), how many bytes. -/
structure FSt (B b : Nat) (w : World) (la : Option Addr) (lc : Nat) (o : List Snp) (ov : Value) (st : StC) : Prop where
  box : w.heap[b]? = some (.cells #[.slice la o.length lc, ov, .int .i64 (st.2 : Nat)] 55 (0, 0))
  own : w.ownsRow B 50 4 ov st.1.length (st.1.flatMap itC)
  lo : B ≤ b
/-- What lies below n stays, but the box and the row's own block. -/
structure FGot (b n : Nat) (w w' : World) (ov v' : Value) : Prop where
  os : w'.os = w.os
  tape : w'.tape = w.tape
  output : w'.output = w.output
  size : w.heap.size ≤ w'.heap.size
  block : ∀ k, k < n → k < w.heap.size → k ≠ b → some k ≠ ov.ownBlock → w'.heap[k]? = w.heap[k]?
  sep : v'.ownBlock = ov.ownBlock ∨ ∃ j, v'.ownBlock = some j ∧ n ≤ j ∧ w.heap.size ≤ j
section
variable {B b n m : Nat} {w wr w' : World} {la : Option Addr} {lc : Nat} {o : List Snp} {ov v v' : Value} {st : StC}
theorem FGot.start (b n : Nat) (w : World) (ov : Value) : FGot b n w w ov ov := ⟨rfl, rfl, rfl, Nat.le_refl _, fun _ _ _ _ _ => rfl, .inl rfl⟩
theorem FGot.trans (h : FGot b n w wr ov v) (h2 : FGot b m wr w' v v') (hnm : n ≤ m) : FGot b n w w' ov v' := by
  refine ⟨h2.os.trans h.os, h2.tape.trans h.tape, h2.output.trans h.output, Nat.le_trans h.size h2.size, fun k hk hk2 hb hne => ?_, ?_⟩
  · refine (h2.block k (by omega) (Nat.lt_of_lt_of_le hk2 h.size) hb fun e => ?_).trans (h.block k hk hk2 hb hne)
    rcases h.sep with hs | ⟨j, hj, hj2, hj3⟩
    · exact hne (e.trans hs)
    · rw [hj] at e; injection e with e; omega
  · rcases h2.sep with hs | ⟨j, hj, hj2, hj3⟩
    · rw [hs]; exact h.sep
    · exact .inr ⟨j, hj, by omega, Nat.le_trans h.size hj3⟩
theorem FGot.step (h : FGot b n w wr ov v) (h1 : w'.os = wr.os) (h2 : w'.tape = wr.tape) (h3 : w'.output = wr.output) (h4 : wr.heap.size ≤ w'.heap.size) (hk : ∀ k, k < wr.heap.size → k < n → k ≠ b → w'.heap[k]? = wr.heap[k]?) : FGot b n w w' ov v :=
  ⟨h1.trans h.os, h2.trans h.tape, h3.trans h.output, Nat.le_trans h.size h4, fun k hk1 hk2 hb hne => (hk k (Nat.lt_of_lt_of_le hk2 h.size) hk1 hb).trans (h.block k hk1 hk2 hb hne), h.sep⟩
theorem FGot.below (h : FGot b n w wr ov v) (hb : Below wr.heap.size wr w') : FGot b n w w' ov v := h.step hb.os hb.tape hb.output hb.size fun k hk _ _ => hb.block k hk
theorem FGot.set (h : FGot b n w wr ov v) (j : Nat) (u : Value) : FGot b n w (wr.setCell ⟨b, j, none⟩ u) ov v := h.step rfl rfl rfl (by simp) fun k _ _ hne => Below.heap_setCell _ _ _ _ hne
theorem FSt.below (h : FSt B b w la lc o ov st) (hb : Below w.heap.size w w') : FSt B b w' la lc o ov st := ⟨(hb.block _ (heap_lt h.box)).trans h.box, own_on h.own hb, h.lo⟩
theorem FSt.ne (h : FSt B b w la lc o ov st) : ov.ownBlock ≠ some b := by
  intro e
  rcases h.own.2 with ⟨h1, _⟩ | ⟨g, cap, cur, h1, _, hg, _⟩
  · rw [h1] at e; simp [Value.ownBlock] at e
  · rw [h1] at e; simp only [Value.ownBlock, Option.some.injEq] at e
    subst e
    have hb := h.box
    rw [hg] at hb
    injection hb with hb
    injection hb with _ hb
    exact absurd hb (by decide)
/-- Memory ahead of the call's stays. -/
theorem FGot.base (h : FGot b n w w' ov v') {W0 : World} (hw0 : Below W0.heap.size W0 w) (hn : W0.heap.size ≤ n) (hb : W0.heap.size ≤ b) (ho : ∀ j, ov.ownBlock = some j → W0.heap.size ≤ j) : Below W0.heap.size W0 w' :=
  ⟨h.os.trans hw0.os, h.tape.trans hw0.tape, h.output.trans hw0.output, Nat.le_trans hw0.size h.size,
    fun k hk => (h.block k (by omega) (by have := hw0.size; omega) (by omega) (fun e => by have := ho k e.symm; omega)).trans (hw0.block k hk)⟩
end
/-- How a step ends: nil, or a fault with a number. -/
def ErrC (c : Int) (ev : Value) (w' : World) : Prop := (c = 0 ∧ ev = .nilIface) ∨ (c ≠ 0 ∧ c ∈ numsL ∧ ∃ (g : Nat) (path : List UInt8), ev = .iface 114 (.pointer (some ⟨g, 0, none⟩)) ∧ w'.heap[g]? = some (.cells #[.int .i64 c, S path] 116 (0, 0)))
theorem ErrC.below {c : Int} {ev : Value} {w w' : World} (h : ErrC c ev w) (hb : Below w.heap.size w w') : ErrC c ev w' := h.imp id fun ⟨h1, h2, g, q, h3, h4⟩ => ⟨h1, h2, g, q, h3, (hb.block _ (heap_lt h4)).trans h4⟩
end Go.Proofs.YtkejdbidomlonaaGreatDoor

namespace Go.Proofs.YtkejdbidomlonaaGreatDoor
open Go.RowKit

theorem bldSize : (Tryz.prog.info? 154).map (·.size) = some 2 := by kernel_rfl
theorem bldLies : liesAt Tryz.prog Tryz.prog.depth 154 (2 / Tryz.prog.cellsOf 154) 0 154 1 = true := by kernel_rfl
abbrev IsBld (B b : Nat) (l : List UInt8) (w : World) : Prop := Lib.IsBuilder 154 5 B b (Lib.byteCells l) w

set_option maxHeartbeats 1100000 in
set_option maxRecDepth 100000 in
theorem ccheck_walk (B b : Nat) (bs : List Value) (w : World) (h : Lib.IsBuilder 154 5 B b bs w) :
    Calls Tryz.prog 128 #[.pointer (some ⟨b, 0, none⟩)] w fun e w' => e = .returned (.tuple #[]) ∧ (Lib.BuilderAt 154 5 B b (.pointer (some ⟨b, 0, none⟩)) bs w' ∧ Below B w w') := by
  obtain ⟨j, hj, hjs⟩ := Option.map_eq_some_iff.1 bldSize
  rcases h with h | h
  · have h0 := h.cell0
    have hsh := h.shape
    have hfz := h.frozen0
    have HB := Lib.hid h
    clear h
    go_enter Tryz.func128, Tryz.ntmps128
    go_wp2
    rw [Lib.run_to_unsafe w ⟨b, 0, none⟩ Tryz.underlying152 Tryz.underlying180 hj (by rw [hjs]; decide) hsh (Nat.zero_lt_succ 1)]
    simp only [Result.andThen]
    rw [Oper.upon_value]
    go_wp2
    rw [run_callFunc_extern Tryz.func152 (by kernel_rfl) (by kernel_rfl) (by kernel_rfl) (e := Extern.AbiNoEscape.same) (by kernel_rfl)]
    rw [Lib.run_noEscape]
    simp only [Result.andThen]
    rw [Oper.upon_value]
    go_wp2
    rw [Lib.run_from_unsafe w ⟨b, 0, none⟩ Tryz.underlying180 Tryz.underlying152 hj hsh bldLies]
    simp only [Result.andThen]
    rw [Oper.upon_value]
    go_wp2
    go_end0
    exact ⟨rfl, HB.out.used _, (Below.refl B w).setCell (p := ⟨b, 0, none⟩) HB.out.1 _⟩
  · have h0 := h.cell0
    have HB := Lib.hid h
    clear h
    go_enter Tryz.func128, Tryz.ntmps128
    go_wp2
    rw [Lib.run_neq_ptr_same w _ Tryz.underlying152 hj]
    go_wp2
    go_end0
    exact ⟨rfl, HB.out, Below.refl B _⟩

set_option maxHeartbeats 2000000 in
set_option maxRecDepth 100000 in
theorem wbyte_walk (B b : Nat) (l : List UInt8) (c : UInt8) (cv : Int) (w : World) (hcv : cv = (c.toNat : Int)) (h : IsBld B b l w) (hlen : l.length ≤ 1100000) (hBw : B ≤ w.heap.size) :
    Calls Tryz.prog 125 #[.pointer (some ⟨b, 0, none⟩), .int .u8 cv] w fun e w' => e = .returned .nilIface ∧ (IsBld B b (l ++ [c]) w' ∧ Below B w w') := by
  obtain ⟨i0, hi, hz0, hz1, hz2⟩ := info_parts infoByte
  subst hcv
  have C := ccheck_walk B b _ w h
  have hll : (Lib.byteCells l).length = l.length := by simp [Lib.byteCells]
  have HLL := Lib.hid hll
  have hla : (Lib.byteCells (l ++ [c])) = Lib.byteCells l ++ [.int .u8 (c.toNat : Int)] := by simp [Lib.byteCells]
  have HLA := Lib.hid hla
  have hbl : (Lib.byteCells l).length ≤ 1100000 := by omega
  unfold IsBld
  rw [hla]
  clear h hll hla
  generalize Lib.byteCells l = bs at *
  go_enter Tryz.func125, Tryz.ntmps125
  go_wp2_with fail
  refine C.mono ?_
  rintro e w1 ⟨rfl, h1, hb1⟩
  obtain ⟨hB, v, hbk, hown, hne⟩ := h1
  have c0 : w1.cell? ⟨b, 0, none⟩ = some (.pointer (some ⟨b, 0, none⟩)) := by rw [Lib.cell_of_heap hbk]; rfl
  have c1 : w1.cell? ⟨b, 1, none⟩ = some v := by rw [Lib.cell_of_heap hbk]; rfl
  have hsz1 := hb1.size
  go_wp2_with (at_builtin; refine wpList_append_own _ rfl _ _ 89 rfl B 5 i0 (.int .u8 0) 1 1 Tryz.underlying89 hi hz0 hz1 hz2 rfl (by decide) _ _ _ rfl (hown.alloc _) ⟨w1.heap.size, 0, none⟩ 1 1 [.int .u8 (c.toNat : Int)] rfl rfl (new_cell_at rfl _ _) (by intro u hu; simp at hu; subst hu; rfl) (by unfold maxLen; omega) (by omega) (by simp; omega) ?_)
  intro v' w2 hown' hgrow _
  have hlt : b < w1.heap.size := by
    rcases Nat.lt_or_ge b w1.heap.size with h' | h'
    · exact h'
    · simp [Array.getElem?_eq_none h'] at hbk
  have hb2 : w2.heap[b]? = some (.cells #[.pointer (some ⟨b, 0, none⟩), v] 154 (0, 0)) := by
    rw [hgrow.block b (by simp; omega) (fun e => hne e.symm), Lib.alloc_old w1 _ b hlt]
    exact hbk
  have d0 : w2.cell? ⟨b, 0, none⟩ = some (.pointer (some ⟨b, 0, none⟩)) := by rw [Lib.cell_of_heap hb2]; rfl
  have d1 : w2.cell? ⟨b, 1, none⟩ = some v := by rw [Lib.cell_of_heap hb2]; rfl
  have f1 : w2.frozen? ⟨b, 1, none⟩ = false := Lib.frozen_of_heap hb2 1
  obtain ⟨g, cap, rfl⟩ : ∃ g cap, v' = .slice (some ⟨g, 0, none⟩) (bs.length + 1) cap := by
    rcases hown'.2 with ⟨_, h0⟩ | ⟨g, cap, cur, hv, _⟩
    · omega
    · exact ⟨g, cap, hv⟩
  go_wp2
  go_ret
  refine ⟨rfl, .inr ?_, ?_⟩
  · exact Lib.BuilderAt.put (T := 154) (e := 5) hB hb2 (bs' := bs ++ [.int .u8 (c.toNat : Int)]) (by simpa using hown') (by decide)
  · exact ((hb1.alloc (by omega) _).grown hgrow (by simp; omega) (fun k hk => (hown.lt k hk).1)).setCell (p := ⟨b, 1, none⟩) hB _

theorem bstring_walk (B b : Nat) (l : List UInt8) (w : World) (h : IsBld B b l w) (hBw : B ≤ w.heap.size) :
    Calls Tryz.prog 94 #[.pointer (some ⟨b, 0, none⟩)] w fun e w' => e = .returned (S l) ∧ Below B w w' := Tryz.Builder_String_any B b l w h hBw
end Go.Proofs.YtkejdbidomlonaaGreatDoor

namespace Go.Proofs.YtkejdbidomlonaaGreatDoor
open Go.RowKit

theorem strCells_bytes (t : List UInt8) : Lib.strCells (⟨t.toArray⟩ : ByteArray) = Lib.byteCells t := by
  simp [Lib.strCells, Lib.byteCells]

set_option maxHeartbeats 2000000 in
set_option maxRecDepth 100000 in
theorem wstr_walk (B b : Nat) (l t : List UInt8) (w : World) (h : IsBld B b l w) (hlen : l.length ≤ 1100000) (htl : t.length ≤ 1100000) (ht0 : 0 < t.length) (hBw : B ≤ w.heap.size) :
    Calls Tryz.prog 93 #[.pointer (some ⟨b, 0, none⟩), S t] w fun e w' => (∃ q, e = .returned (.tuple #[.int .i64 q, .nilIface])) ∧ (IsBld B b (l ++ t) w' ∧ Below B w w') := by
  obtain ⟨i0, hi, hz0, hz1, hz2⟩ := info_parts infoByte
  have C := ccheck_walk B b _ w h
  have hll : (Lib.byteCells l).length = l.length := by simp [Lib.byteCells]
  have hla : (Lib.byteCells (l ++ t)) = Lib.byteCells l ++ Lib.strCells (⟨t.toArray⟩ : ByteArray) := by rw [strCells_bytes]; simp [Lib.byteCells]
  have hbl : (Lib.byteCells l).length ≤ 1100000 := by omega
  have hts : (⟨t.toArray⟩ : ByteArray).size = t.length := by simp [ByteArray.size]
  have HTS := Lib.hid hts
  have HT0 := Lib.hid ht0
  unfold IsBld
  rw [hla]
  clear h hll hla hts ht0
  generalize Lib.byteCells l = bs at *
  go_enter Tryz.func93, Tryz.ntmps93
  go_wp2_with fail
  refine C.mono ?_
  rintro e w1 ⟨rfl, h1, hb1⟩
  obtain ⟨hB, v, hbk, hown, hne⟩ := h1
  have c0 : w1.cell? ⟨b, 0, none⟩ = some (.pointer (some ⟨b, 0, none⟩)) := by rw [Lib.cell_of_heap hbk]; rfl
  have c1 : w1.cell? ⟨b, 1, none⟩ = some v := by rw [Lib.cell_of_heap hbk]; rfl
  have hsz1 := hb1.size
  go_wp2_with (at_builtin; refine Lib.wpList_append_own_string _ rfl _ _ 89 9 rfl B 5 i0 Tryz.underlying89 Tryz.underlying9 hi hz0 hz1 hz2 _ _ _ rfl hown (⟨t.toArray⟩ : ByteArray) rfl (by unfold maxLen; have := HTS.out; omega) (by have := HTS.out; omega) (by omega) ?_)
  intro v' w2 hown' hgrow _
  have hlt : b < w1.heap.size := by
    rcases Nat.lt_or_ge b w1.heap.size with h' | h'
    · exact h'
    · simp [Array.getElem?_eq_none h'] at hbk
  have hb2 : w2.heap[b]? = some (.cells #[.pointer (some ⟨b, 0, none⟩), v] 154 (0, 0)) := by
    rw [hgrow.block b hlt (fun e => hne e.symm)]
    exact hbk
  have d0 : w2.cell? ⟨b, 0, none⟩ = some (.pointer (some ⟨b, 0, none⟩)) := by rw [Lib.cell_of_heap hb2]; rfl
  have d1 : w2.cell? ⟨b, 1, none⟩ = some v := by rw [Lib.cell_of_heap hb2]; rfl
  have f1 : w2.frozen? ⟨b, 1, none⟩ = false := Lib.frozen_of_heap hb2 1
  obtain ⟨g, cap, rfl⟩ : ∃ g cap, v' = .slice (some ⟨g, 0, none⟩) (bs.length + t.length) cap := by
    rcases hown'.2 with ⟨_, h0⟩ | ⟨g, cap, cur, hv, _⟩
    · have := HTS.out; have := HT0.out; omega
    · exact ⟨g, cap, hv⟩
  have HOWN := Lib.hid hown'
  have HGR := Lib.hid hgrow
  have HOW := Lib.hid hown
  clear hown' hgrow hown
  have HL2 := Lib.hid (show (bs ++ Lib.strCells (⟨t.toArray⟩ : ByteArray)).length = bs.length + t.length by rw [strCells_bytes]; simp [Lib.byteCells])
  go_wp2
  go_ret2
  refine ⟨⟨_, rfl⟩, .inr ?_, ?_⟩
  · rw [← HL2.out]
    exact Lib.BuilderAt.put (T := 154) (e := 5) hB hb2 (bs' := bs ++ Lib.strCells (⟨t.toArray⟩ : ByteArray)) (by rw [HL2.out]; exact HOWN.out) (by decide)
  · exact (hb1.grown HGR.out (by omega) (fun k hk => (HOW.out.lt k hk).1)).setCell (p := ⟨b, 1, none⟩) hB _
end Go.Proofs.YtkejdbidomlonaaGreatDoor

namespace Go.Proofs.YtkejdbidomlonaaGreatDoor
open Go.RowKit

theorem run_append_sep {P : Program} (w : World) (base : Nat) (t ty e : TypeId) (i : TypeInfo) (z : Value) (size bytes : Nat) (ht : P.underlying t = some (.slice e)) (hi : P.info? e = some i) (hz : i.zero = some z)
    (hsize : i.size = size) (hby : i.bytes = bytes) (hzs : z.cells.size = size) (hsz : 0 < size)
    (v : Value) (n : Nat) (xs : List Value) (hown : w.ownsRow base e size v n xs)
    (a : Addr) (m c : Nat) (news : List Value) (hl : news.length = m * size) (hnews : ∀ j u, news[j]? = some u → w.cell? (a.add j) = some u) (h1 : ∀ u ∈ news, u.oneCell' = true)
    (h63 : n + m ≤ maxLen) (hbytes : (n + m) * bytes ≤ 140737488355328) (hbase : base ≤ w.heap.size) (hm : 0 < m) :
    ∃ v' w', (Builtin.append_ #[t, t] ty #[v, .slice (some a) m c]).run P w = .ok v' w' ∧ w'.ownsRow base e size v' (n + m) (xs ++ news) ∧ w.grownBy w' v.ownBlock ∧
      (v'.ownBlock = v.ownBlock ∨ v'.ownBlock = some w.heap.size) := by
  obtain ⟨v', w', hr, h2, h3, _⟩ := run_append_own (P := P) w base t ty e i z size bytes ht hi hz hsize hby hzs hsz v n xs hown a m c news hl hnews h1 h63 hbytes hbase
  refine ⟨v', w', hr, h2, h3, ?_⟩
  subst hsize
  subst hby
  have hsmall : n + m ≤ 9223372036854775807 := by simp only [maxLen] at h63; omega
  rcases hown.2 with ⟨rfl, rfl⟩ | ⟨g, cap, cur, rfl, hbg, hg, hnc, hcm, hcs, htake⟩
  · have hq := run_append_nil (P := P) w t ty e i z ht hi hz a m c news hl hnews hm (by omega) (by have hb := hbytes; simp only [Nat.zero_add] at hb; omega)
    rw [hr] at hq
    cases hq
    exact .inr rfl
  · by_cases hroom : n + m ≤ cap
    · have hfit : n * i.size + news.length ≤ cur.size := by rw [hl, hcs, ← Nat.add_mul]; exact Nat.mul_le_mul_right _ hroom
      have hq := run_append_room (P := P) w t ty e i ht hi g n cap cur hg a m c news hl hnews h1 hroom hfit
      rw [hr] at hq
      cases hq
      exact .inl rfl
    · have holds : ∀ j u, xs[j]? = some u → w.cell? ((⟨g, 0, none⟩ : Addr).add j) = some u := hown.cells (g := g) rfl
      have hq := run_append_grow (P := P) w t ty e i z ht hi hz ⟨g, 0, none⟩ n cap xs hown.1 holds a m c news hl hnews (by omega) (by omega) (growslice_fits (by omega) hbytes)
      rw [hr] at hq
      cases hq
      exact .inr rfl

theorem wpList_append_sep {P : Program} {w : World} {ops : Array Oper} {rest : List Oper} {o : Oper} {a : Act} {Q : Exit → Act → World → Prop} (hgd : o.guard = none) (s x : Operand) (t : TypeId)
    (ho : o.op = .call { callee := .builtin .append, args := #[s, x], argTypes := #[t, t] })
    (base : Nat) (e : TypeId) (i : TypeInfo) (z : Value) (size bytes : Nat) (ht : P.underlying t = some (.slice e)) (hi : P.info? e = some i) (hz : i.zero = some z)
    (hsize : i.size = size) (hby : i.bytes = bytes) (hzs : z.cells.size = size) (hsz : 0 < size)
    (v : Value) (n : Nat) (xs : List Value) (hs : a.eval s = v) (hown : w.ownsRow base e size v n xs)
    (ad : Addr) (m c : Nat) (news : List Value) (hx : a.eval x = .slice (some ad) m c) (hl : news.length = m * size) (hnews : ∀ j u, news[j]? = some u → w.cell? (ad.add j) = some u) (h1 : ∀ u ∈ news, u.oneCell' = true)
    (h63 : n + m ≤ maxLen) (hbytes : (n + m) * bytes ≤ 140737488355328) (hbase : base ≤ w.heap.size) (hm : 0 < m)
    (h : ∀ v' w', w'.ownsRow base e size v' (n + m) (xs ++ news) → w.grownBy w' v.ownBlock → (v'.ownBlock = v.ownBlock ∨ v'.ownBlock = some w.heap.size) → wpList P ops Q rest (a.put o.dst v') w') : wpList P ops Q (o :: rest) a w := by
  refine wpList_plain hgd fun K hK => ?_
  obtain ⟨v', w', hr, h2, h3, h4⟩ := run_append_sep (P := P) w base t o.type e i z size bytes ht hi hz hsize hby hzs hsz v n xs hown ad m c news hl hnews h1 h63 hbytes hbase hm
  have hK' := hK _ _ (h v' w' h2 h3 h4)
  unfold Oper.wp execOp
  simp only [ho, resolve, invoke, builtin, Sem.run_bind, Sem.run_pure, Result.andThen_ok, List.map_toArray, List.map_cons, List.map_nil, hs, hx, hr]
  exact hK'
theorem run_append_none {P : Program} (w : World) (t ty e : TypeId) (i : TypeInfo) (ht : P.underlying t = some (.slice e)) (hi : P.info? e = some i) (b : Option Addr) (n cap c : Nat) (h : n ≤ cap) :
    (Builtin.append_ #[t, t] ty #[.slice b n cap, .slice none 0 c]).run P w = .ok (.slice b n cap) w := by
  cases b <;> simp [Builtin.append_, run_underlying ht, sizeOf, typeInfo, hi, Builtin.lenOf, Builtin.firstCells, h, storeCells]

/-- A row of texts, nil or not, appended to a row of the call's own. -/
theorem wpList_append_row {P : Program} {w : World} {ops : Array Oper} {rest : List Oper} {o : Oper} {a : Act} {Q : Exit → Act → World → Prop} (hgd : o.guard = none) (s x : Operand) (t : TypeId)
    (ho : o.op = .call { callee := .builtin .append, args := #[s, x], argTypes := #[t, t] })
    (base : Nat) (e : TypeId) (i : TypeInfo) (z : Value) (ht : P.underlying t = some (.slice e)) (hi : P.info? e = some i) (hz : i.zero = some z)
    (hsize : i.size = 1) (hby : i.bytes = 16) (hzs : z.cells.size = 1)
    (v : Value) (n : Nat) (xs : List Value) (hs : a.eval s = v) (hown : w.ownsRow base e 1 v n xs)
    (vx : Value) (l : List (List UInt8)) (hx : a.eval x = vx) (hrow : StrRow w vx l)
    (h63 : n + l.length ≤ 1100000) (hbase : base ≤ w.heap.size)
    (h : ∀ v' w', w'.ownsRow base e 1 v' (n + l.length) (xs ++ l.map S) → Below base w w' → wpList P ops Q rest (a.put o.dst v') w') : wpList P ops Q (o :: rest) a w := by
  obtain ⟨a', c', rfl, hc, hm, hxx⟩ := hrow
  cases a' with
  | none =>
    have hl : l = [] := by
      rcases hxx with hxx | ⟨b, o, hb, _⟩
      · exact hxx
      · cases hb
    subst hl
    refine wpList_plain hgd fun K hK => ?_
    have hcap : ∃ b cap, v = .slice b n cap ∧ n ≤ cap := by
      rcases hown.2 with ⟨rfl, rfl⟩ | ⟨g, cap, cur, rfl, _, _, hnc, _⟩
      · exact ⟨_, _, rfl, Nat.le_refl _⟩
      · exact ⟨_, _, rfl, hnc⟩
    obtain ⟨b, cap, rfl, hncap⟩ := hcap
    have hr := run_append_none (P := P) w t o.type e i ht hi b n cap c' hncap
    have hK' := hK _ _ (h (.slice b n cap) w (by simpa using hown) (Below.refl _ _))
    unfold Oper.wp execOp
    simp only [List.length_nil] at hx
    simp only [ho, resolve, invoke, builtin, Sem.run_bind, Sem.run_pure, Result.andThen_ok, List.map_toArray, List.map_cons, List.map_nil, hs, hx, hr]
    exact hK'
  | some ad =>
    refine wpList_append_own w hgd s x t ho base e i z 1 16 ht hi hz hsize hby hzs (by decide) v n xs hs hown ad l.length c' (l.map S) hx (by simp) (fun j u hj => ?_) (by intro u hu; obtain ⟨x, _, rfl⟩ := List.mem_map.1 hu; rfl) (by unfold maxLen; omega) (by omega) hbase (fun v' w' h1 h2 _ => h v' w' h1 ?_)
    · rcases hxx with hxx | ⟨b, o, hb, hxx⟩
      · rw [hxx] at hj; cases hj
      · cases hb
        rw [Addr.add_lit]
        rw [List.getElem?_map] at hj
        cases hlj : l[j]? with
        | none => rw [hlj] at hj; cases hj
        | some x => rw [hlj] at hj; cases hj; exact hxx j x hlj
    · exact (Below.refl base w).grown h2 hbase (fun k hk => (hown.lt k hk).1)
/-- An empty row, as a literal writes it. -/
theorem own_empty (w : World) (e : TypeId) : (w.alloc (.cells #[] e)).ownsRow w.heap.size e 1 (.slice (some ⟨w.heap.size, 0, none⟩) 0 0) 0 [] :=
  ⟨rfl, .inr ⟨w.heap.size, 0, #[], rfl, Nat.le_refl _, heap_alloc_new w _, Nat.le_refl _, Nat.zero_le _, rfl, rfl⟩⟩
end Go.Proofs.YtkejdbidomlonaaGreatDoor

namespace Go.Proofs.YtkejdbidomlonaaGreatDoor
open Go.RowKit

theorem bld_onF {B b : Nat} {l : List UInt8} {w w' : World} (h : IsBld B b l w) (hb : Below w.heap.size w w') : IsBld B b l w' := by
  rcases h with ⟨hB, v, hbk, hown, hne⟩ | ⟨hB, v, hbk, hown, hne⟩
  · exact .inl ⟨hB, v, (hb.block b (heap_lt hbk)).trans hbk, own_on hown hb, hne⟩
  · exact .inr ⟨hB, v, (hb.block b (heap_lt hbk)).trans hbk, own_on hown hb, hne⟩
theorem own_blockF {w w' : World} {B e K n : Nat} {v : Value} {xs : List Value} (h : w.ownsRow B e K v n xs) (hk : ∀ g, v.ownBlock = some g → w'.heap[g]? = w.heap[g]?) : w'.ownsRow B e K v n xs :=
  ⟨h.1, h.2.imp id fun ⟨g, cap, cur, h1, h2, h3, h4⟩ => ⟨g, cap, cur, h1, h2, (hk g (by rw [h1]; rfl)).trans h3, h4⟩⟩
theorem bld_setF {B b g : Nat} {l : List UInt8} {w : World} (h : IsBld B b l w) (hg : g < B) (o : Nat) (v : Value) : IsBld B b l (w.setCell ⟨g, o, none⟩ v) := by
  have key : ∀ p, Lib.BuilderAt 154 5 B b p (Lib.byteCells l) w → Lib.BuilderAt 154 5 B b p (Lib.byteCells l) (w.setCell ⟨g, o, none⟩ v) := by
    rintro p ⟨h1, u, h2, h3, h4⟩
    have hlt := heap_lt h2
    refine ⟨h1, u, (Below.heap_setCell _ _ _ _ (show b ≠ g by omega)).trans h2, own_blockF h3 (fun k hk => Below.heap_setCell _ _ _ _ (show k ≠ g by have := (h3.lt k hk).1; omega)), h4⟩
  exact h.elim (fun x => .inl (key _ x)) (fun x => .inr (key _ x))
section
variable {B b n m : Nat} {w wr w' : World} {la : Option Addr} {lc : Nat} {o : List Snp} {ov v v' : Value} {st : StC}
theorem FSt.belowN (h : FSt B b w la lc o ov st) (hb : Below n w w') (hn : b < n) (ho : ∀ j, ov.ownBlock = some j → j < n) : FSt B b w' la lc o ov st :=
  ⟨(hb.block _ hn).trans h.box, own_blockF h.own (fun g hg => hb.block g (ho g hg)), h.lo⟩
theorem FSt.resize (h : FSt B b w la lc o ov st) (s : Nat) : FSt B b (w.setCell ⟨b, 2, none⟩ (.int .i64 (s : Nat))) la lc o ov (st.1, s) :=
  ⟨heap_set_cell (o := 2) h.box _, own_blockF h.own (fun g hg => Below.heap_setCell _ _ _ _ (fun e => h.ne (by rw [hg, e]))), h.lo⟩
theorem FGot.belowN (h : FGot b n w wr ov v) (hb : Below m wr w') (hnm : n ≤ m) : FGot b n w w' ov v := h.step hb.os hb.tape hb.output hb.size fun k _ hk _ => hb.block k (by omega)
/-- An item more in the row, and the box holds the new row. -/
theorem FSt.app {x : Itm} {ev : Value} {wA wB : World} (h : FSt B b wA la lc o ov st) (hown : wB.ownsRow B 50 4 ev (st.1.length + 1) (st.1.flatMap itC ++ itC x)) (hg : wA.grownBy wB ov.ownBlock) :
    FSt B b (wB.setCell ⟨b, 1, none⟩ ev) la lc o ev (st.1 ++ [x], st.2) := by
  have hbox := (hg.block b (heap_lt h.box) (fun e => h.ne e.symm)).trans h.box
  have hne : ∀ g, ev.ownBlock = some g → g ≠ b := by
    rintro g hg2 rfl
    rcases hown.2 with ⟨h1, _⟩ | ⟨k, cap, cur, h1, _, hk, _⟩
    · rw [h1] at hg2; simp [Value.ownBlock] at hg2
    · rw [h1] at hg2; simp only [Value.ownBlock, Option.some.injEq] at hg2
      subst hg2
      rw [hk] at hbox
      injection hbox with hbox
      injection hbox with _ hbox
      exact absurd hbox (by decide)
  refine ⟨heap_set_cell (o := 1) hbox _, ?_, h.lo⟩
  have h2 := own_blockF hown (w' := wB.setCell ⟨b, 1, none⟩ ev) (fun g hg2 => Below.heap_setCell _ _ _ _ (hne g hg2))
  simpa using h2
theorem FGot.app {ev : Value} {wA wB : World} (h : FGot b n w wA ov v) (hg : wA.grownBy wB v.ownBlock) (hsep : ev.ownBlock = v.ownBlock ∨ ev.ownBlock = some wA.heap.size) (hn : n ≤ w.heap.size) : FGot b n w (wB.setCell ⟨b, 1, none⟩ ev) ov ev := by
  refine ⟨hg.os.trans h.os, hg.tape.trans h.tape, hg.output.trans h.output, by simpa using Nat.le_trans h.size hg.size, fun k hk hk2 hb hne => ?_, ?_⟩
  · refine (Below.heap_setCell _ _ _ _ hb).trans ((hg.block k (Nat.lt_of_lt_of_le hk2 h.size) fun e => ?_).trans (h.block k hk hk2 hb hne))
    rcases h.sep with hs | ⟨j, hj, hj2, hj3⟩
    · exact hne (e.trans hs)
    · rw [hj] at e; injection e with e; omega
  · rcases hsep with hs | hs
    · rw [hs]; exact h.sep
    · exact .inr ⟨_, hs, Nat.le_trans hn h.size, h.size⟩
end
theorem wp_append_sep {P : Program} {w : World} {o : Oper} {a : Act} {K : Act → World → Prop} {Q : Exit → Act → World → Prop} (s x : Operand) (t : TypeId)
    (ho : o.op = .call { callee := .builtin .append, args := #[s, x], argTypes := #[t, t] })
    (base : Nat) (e : TypeId) (i : TypeInfo) (z : Value) (size bytes : Nat) (ht : P.underlying t = some (.slice e)) (hi : P.info? e = some i) (hz : i.zero = some z)
    (hsize : i.size = size) (hby : i.bytes = bytes) (hzs : z.cells.size = size) (hsz : 0 < size)
    (v : Value) (n : Nat) (xs : List Value) (hs : a.eval s = v) (hown : w.ownsRow base e size v n xs)
    (ad : Addr) (m c : Nat) (news : List Value) (hx : a.eval x = .slice (some ad) m c) (hl : news.length = m * size) (hnews : ∀ j u, news[j]? = some u → w.cell? (ad.add j) = some u) (h1 : ∀ u ∈ news, u.oneCell' = true)
    (h63 : n + m ≤ maxLen) (hbytes : (n + m) * bytes ≤ 140737488355328) (hbase : base ≤ w.heap.size) (hm : 0 < m)
    (h : ∀ v' w', w'.ownsRow base e size v' (n + m) (xs ++ news) → w.grownBy w' v.ownBlock → (v'.ownBlock = v.ownBlock ∨ v'.ownBlock = some w.heap.size) → K (a.put o.dst v') w') : o.wp P a w K Q := by
  obtain ⟨v', w', hr, h2, h3, h4⟩ := run_append_sep (P := P) w base t o.type e i z size bytes ht hi hz hsize hby hzs hsz v n xs hown ad m c news hl hnews h1 h63 hbytes hbase hm
  unfold Oper.wp execOp
  simp only [ho, resolve, invoke, builtin, Sem.run_bind, Sem.run_pure, Result.andThen_ok, List.map_toArray, List.map_cons, List.map_nil, hs, hx, hr]
  exact h v' w' h2 h3 h4
end Go.Proofs.YtkejdbidomlonaaGreatDoor

namespace Go.Proofs.YtkejdbidomlonaaGreatDoor
open Go.RowKit Go.Extern.Stop Go.Stop Go.Extern

theorem isTypeOf (v : Value) (w : World) : (Extern.ReflectliteType.typeOf #[.iface 33 v]).run Tryz.prog w = .ok (.iface 158 (.agg #[.pointer (some ⟨2, 33, none⟩)])) w := by kernel_rfl
/-- What the model says of Comparable. -/
theorem isComparable : ∃ f : Array Value → Sem Value, (∀ args w, (callFunc 199 args).run Tryz.prog w = ((f args).run Tryz.prog w).andThen fun v w' => .ok (Next.value v) w') ∧
    ∀ w, (f #[.agg #[.pointer (some ⟨2, 33, none⟩)]]).run Tryz.prog w = .ok (.bool true) w :=
  ⟨Extern.ReflectliteType.method fun t => do Rtype.noPackHeld "Comparable" t; pure (.bool (← typeInfo t).comparable),
    @run_callFunc_extern Tryz.prog 199 _ _ Tryz.func199 (by kernel_rfl) (by kernel_rfl) (by kernel_rfl) (by kernel_rfl), fun w => by kernel_rfl⟩
theorem isMethodComparable (v : Value) (w : World) : (Go.method 376 158 v "Comparable").run Tryz.prog w = .ok (199, v) w := by kernel_rfl
theorem isComp : (Tryz.prog.info? 33).map (·.comparable) = some true := by kernel_rfl
theorem noIsE (v : Value) (xT : TypeId) (w : World) : (Instr.typeAssert (.iface 33 v) xT 160 true).run Tryz.prog w = .ok (.tuple #[.nilIface, .bool false]) w := run_typeAssert_lacksB Tryz.underlying160 (by kernel_rfl) (by kernel_rfl) v xT w
theorem noUnwrapE (v : Value) (xT : TypeId) (w : World) : (Instr.typeAssert (.iface 33 v) xT 163 true).run Tryz.prog w = .ok (.tuple #[.nilIface, .bool false]) w := run_typeAssert_lacksB Tryz.underlying163 (by kernel_rfl) (by kernel_rfl) v xT w
theorem noUnwrapsE (v : Value) (xT : TypeId) (w : World) : (Instr.typeAssert (.iface 33 v) xT 165 true).run Tryz.prog w = .ok (.tuple #[.nilIface, .bool false]) w := run_typeAssert_lacksB Tryz.underlying165 (by kernel_rfl) (by kernel_rfl) v xT w
theorem noIsW (v : Value) (xT : TypeId) (w : World) : (Instr.typeAssert (.iface 114 v) xT 160 true).run Tryz.prog w = .ok (.tuple #[.nilIface, .bool false]) w := run_typeAssert_lacksB Tryz.underlying160 (by kernel_rfl) (by kernel_rfl) v xT w
theorem hasUnwrapW (v : Value) (xT : TypeId) (w : World) : (Instr.typeAssert (.iface 114 v) xT 163 true).run Tryz.prog w = .ok (.tuple #[.iface 114 v, .bool true]) w := run_typeAssert_hasB Tryz.underlying163 (by kernel_rfl) v xT w
theorem methodUnwrap (v : Value) (w : World) : (Go.method 376 114 v "Unwrap").run Tryz.prog w = .ok (194, v) w := by kernel_rfl

/-- errors.Is(fault, t): whether its number is t. -/
theorem is_fault (b : Nat) (c t : Int) (w : World) (h1 : w.cell? ⟨b, 0, none⟩ = some (.int .i64 c)) :
    Calls Tryz.prog 46 #[.iface 114 (.pointer (some ⟨b, 0, none⟩)), .iface 33 (.int .i64 t)] w fun e w' => e = .returned (.bool (c == t)) ∧ w' = w := by
  have hTO := @run_callFunc_extern Tryz.prog 71 _ Extern.ReflectliteType.typeOf Tryz.func71 (by kernel_rfl) (by kernel_rfl) (by kernel_rfl) (by kernel_rfl)
  obtain ⟨cf, hCO, cT⟩ := isComparable
  have tT := isTypeOf
  have mR := isMethodComparable
  have nE := noIsE
  have uE := noUnwrapE
  have vE := noUnwrapsE
  have nW := noIsW
  have uW := hasUnwrapW
  have mU := methodUnwrap
  have heq := Lib.run_eql_iface_int (P := Tryz.prog) (k := .i64) w c t Tryz.underlying57 isComp Tryz.underlying33
  have hty := run_eql_iface_types (P := Tryz.prog) 114 33 (.pointer (some ⟨b, 0, none⟩)) (.int .i64 t) Tryz.underlying57 (by decide) w
  obtain ⟨q, hq⟩ : ∃ q, (c == t) = q := ⟨_, rfl⟩
  rw [hq] at heq
  rw [hq]
  clear hq
  cases q with
  | true =>
    go_enter Tryz.func46, Tryz.ntmps46
    go_wp2
    refine wp_loop_rounds 2 ?_
    rw [rounds_succ]
    go_wp2
    rw [rounds_succ]
    go_wp2
    go_ret
    exact ⟨rfl, rfl⟩
  | false =>
    go_enter Tryz.func46, Tryz.ntmps46
    go_wp2
    refine wp_loop_rounds 2 ?_
    rw [rounds_succ]
    go_wp2
    rw [rounds_succ]
    go_wp2
    go_ret
    exact ⟨rfl, rfl⟩
end Go.Proofs.YtkejdbidomlonaaGreatDoor

namespace Go.Proofs.YtkejdbidomlonaaGreatDoor
open Go.RowKit

theorem isnan_walk (p : List UInt8) (w : World) : Calls Tryz.prog 130 #[S p] w fun e w' => e = .returned (.bool false) ∧ w' = w := by
  have hpp : (p == p) = true := by simp
  go_enter Tryz.func130, Tryz.ntmps130
  go_wp2
  go_ret
  exact ⟨rfl, rfl⟩

set_option maxHeartbeats 400000 in
theorem compare_walk (p n : List UInt8) (w : World) : Calls Tryz.prog 101 #[S p, S n] w fun e w' => e = .returned (.int .i64 (cmpS p n)) ∧ w' = w := by
  rcases three_ways p n with ⟨h1, _, h2, h3, h4⟩ | ⟨h1, rfl, h2, h3, h4⟩ | ⟨h1, _, h2, h3, h4⟩
  all_goals
    have H1 := Lib.hid h1
    rw [H1.out]
    clear h1
    go_enter Tryz.func101, Tryz.ntmps101
    go_wp2_with (go_at_call 130; refine (isnan_walk _ _).mono ?_; rintro e w1 ⟨rfl, rfl⟩)
    go_ret
    exact ⟨rfl, rfl⟩

end Go.Proofs.YtkejdbidomlonaaGreatDoor
