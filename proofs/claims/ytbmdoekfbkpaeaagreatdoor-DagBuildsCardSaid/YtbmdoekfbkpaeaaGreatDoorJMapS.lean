/- A map from texts to texts that the call makes: its entries are those of a list. strings.Builder: copyCheck and WriteByte, at this program. (*strings.Builder).WriteString, at this program. The program's numbers as bytes: Put, PutText. -/
import Derived.Test.YtbmdoekfbkpaeaaGreatDoorJKeyNP
import Derived.Maps.OwnOps
import Derived.Maps.RangeRun
import Derived.Maps.Views
import Derived.StringKeys
import Derived.Laws.StructEq
import Derived.Test.YtbmdoekfbkpaeaaGreatDoorJR11b
import Derived.Test.YtbmdoekfbkpaeaaGreatDoorJNodePlain
import Derived.Test.YtbmdoekfbkpaeaaGreatDoorShelf
import Derived.Lib.AppendStr
namespace Go.Proofs.YtbmdoekfbkpaeaaGreatDoor
open Go.RowKit
open Go.ChangeMaps (setBlock)

def entsL (E : List Snp) : List MapEntry := E.zipIdx.map fun p => ⟨S p.1.1, S p.1.2, p.2⟩
theorem entsL_len (E : List Snp) : (entsL E).length = E.length := by simp [entsL]
theorem entsL_snoc (E : List Snp) (x : Snp) : entsL (E ++ [x]) = entsL E ++ [⟨S x.1, S x.2, E.length⟩] := by
  simp [entsL, List.zipIdx_append]
/-- Block b is a map whose entries, in the order in which they came, are E's. -/
def SMapE (w : World) (b : Nat) (E : List Snp) : Prop := w.heap[b]? = some (.map (entsL E).toArray E.length)
/-- .. are o's, in whatever order. -/
def SMap (w : World) (b : Nat) (o : List Snp) : Prop := ∃ E : List Snp, SMapE w b E ∧ E.Perm o ∧ (namesR o).Nodup
theorem SMap.made (w : World) : SMap (w.alloc (.map #[] 0)) w.heap.size [] := ⟨[], heap_alloc_new _ _, List.Perm.refl _, by simp [namesR]⟩
theorem SMap.lt {w : World} {b : Nat} {o : List Snp} (h : SMap w b o) : b < w.heap.size := by obtain ⟨E, h, _⟩ := h; exact heap_lt h
theorem SMap.block {w w' : World} {b : Nat} {o : List Snp} (h : SMap w b o) (hb : w'.heap[b]? = w.heap[b]?) : SMap w' b o := by
  obtain ⟨E, h1, h2⟩ := h
  exact ⟨E, hb.trans h1, h2⟩
theorem SMap.kept {w w' : World} {b : Nat} {o : List Snp} (h : SMap w b o) (hb : Below w.heap.size w w') : SMap w' b o := h.block (hb.block b h.lt)

theorem sstr_eq (a b : List UInt8) : ((⟨a.toArray⟩ : ByteArray) == ⟨b.toArray⟩) = decide (a = b) := by
  rw [beq_toListBytes, ByteArray.toList_eq, ByteArray.toList_eq, Bool.eq_iff_iff, beq_iff_eq, decide_eq_true_eq]
theorem findNow_ents (k : List UInt8) : ∀ (E : List Snp) (i j : Nat), ∃ n, Instr.findNow .string (S k) ((E.zipIdx i).map fun p => (⟨S p.1.1, S p.1.2, p.2⟩ : MapEntry)) j = some ((findR E k).map fun r => (n, S r))
  | [], i, j => ⟨0, rfl⟩
  | x :: E, i, j => by
    obtain ⟨n, hn⟩ := findNow_ents k E (i + 1) (j + 1)
    rw [List.zipIdx_cons, List.map_cons]
    unfold Instr.findNow
    simp only [Instr.sameNow, sstr_eq]
    by_cases h : k = x.1
    · refine ⟨j, ?_⟩
      subst h
      simp [findR]
    · refine ⟨n, ?_⟩
      rw [decide_eq_false h]
      simp only
      rw [hn]
      have : ¬ x.1 = k := fun e => h e.symm
      simp [findR, this]
theorem findR_mem {E : List Snp} {k r : List UInt8} (h : findR E k = some r) : (k, r) ∈ E := by
  unfold findR at h
  rw [Option.map_eq_some_iff] at h
  obtain ⟨x, hx, rfl⟩ := h
  have h1 := List.find?_some hx
  rw [beq_iff_eq] at h1
  rw [← h1]
  exact List.mem_of_find?_eq_some hx
theorem findR_of_mem : ∀ {E : List Snp} {k r : List UInt8}, (namesR E).Nodup → (k, r) ∈ E → findR E k = some r
  | x :: E, k, r, hn, h => by
    have h2 := List.nodup_cons.1 (show (x.1 :: namesR E).Nodup from hn)
    rcases List.mem_cons.1 h with rfl | h
    · simp [findR]
    · have hne : ¬ x.1 = k := by
        rintro rfl
        exact h2.1 (List.mem_map.2 ⟨_, h, rfl⟩)
      have := findR_of_mem h2.2 h
      unfold findR at *
      rw [List.find?_cons_of_neg (by simpa using hne)]
      exact this
theorem findR_perm {E o : List Snp} (h : E.Perm o) (hn : (namesR o).Nodup) (k : List UInt8) : findR E k = findR o k := by
  have hn2 : (namesR E).Nodup := (List.Perm.nodup_iff (h.map _)).2 hn
  cases ho : findR o k with
  | some r => exact findR_of_mem hn2 (h.mem_iff.2 (findR_mem ho))
  | none =>
    cases he : findR E k with
    | none => rfl
    | some r =>
      have := findR_of_mem hn (h.mem_iff.1 (findR_mem he))
      rw [ho] at this; cases this

theorem zeroStr (w : World) : (zeroValue 9).run Tryz.prog w = .ok (.string ⟨#[]⟩) w := by kernel_rfl
theorem checkStr (b : Bool) (k : List UInt8) (w : World) : (Instr.checkKey b 10000 9 (S k)).run Tryz.prog w = .ok () w :=
  MapKept.run_checkKey Tryz.underlying9 (by trivial) b 9999
theorem run_findKey {w : World} {E o : List Snp} (h2 : E.Perm o) (h3 : (namesR o).Nodup) (k : List UInt8) :
    ∃ n, (Instr.findKey 9 (S k) (entsL E)).run Tryz.prog w = .ok ((findR o k).map fun r => (n, S r)) w := by
  obtain ⟨n, hn⟩ := findNow_ents k E 0 0
  refine ⟨n, ?_⟩
  rw [findR_perm h2 h3] at hn
  unfold entsL
  simp [Instr.findKey, run_underlying Tryz.underlying9, hn]
theorem SMap.look {w : World} {b : Nat} {o : List Snp} (h : SMap w b o) (k : List UInt8) :
    (Instr.lookup 53 (.map (some b)) (S k) true).run Tryz.prog w = .ok (.tuple #[S (rootOf (findR o k)), .bool (findR o k).isSome]) w := by
  obtain ⟨E, h1, h2, h3⟩ := h
  obtain ⟨n, hn⟩ := run_findKey (w := w) h2 h3 k
  have he : (Instr.checkKey (entsL E).toArray.isEmpty 10000 9 (S k)).run Tryz.prog w = .ok () w := checkStr _ k w
  cases hf : findR o k with
  | none =>
    rw [hf] at hn
    simp [Instr.lookup, run_underlying Tryz.underlying53, MapKept.run_getObj_map h1, checkStr, hn, rootOf]
  | some r =>
    rw [hf] at hn
    simp [Instr.lookup, run_underlying Tryz.underlying53, MapKept.run_getObj_map h1, checkStr, hn, rootOf]
theorem setBlock_at {w : World} {g : Nat} (h : g < w.heap.size) (o : Obj) : (setBlock w g o).heap[g]? = some o := by
  show (w.heap.setIfInBounds g o)[g]? = _
  rw [Array.getElem?_setIfInBounds_self]; simp [h]
theorem setBlock_grown (w : World) (g : Nat) (o : Obj) : w.grownBy (setBlock w g o) (some g) :=
  ⟨rfl, rfl, rfl, by simp [setBlock], fun k hk hne => by
    have hne' : k ≠ g := fun e => hne (by rw [e])
    show (w.heap.setIfInBounds g o)[k]? = _
    rw [Array.getElem?_setIfInBounds_ne (fun e => hne' e.symm)]⟩
/-- An entry more, at a key that is not there. -/
theorem SMap.update {w : World} {b : Nat} {o o' : List Snp} (h : SMap w b o) {k : List UInt8} (hk : findR o k = none) (v : List UInt8) (hp : o'.Perm (o ++ [(k, v)])) :
    ∃ w', (Instr.mapUpdate 53 (.map (some b)) (S k) (S v)).run Tryz.prog w = .ok () w' ∧ SMap w' b o' ∧ w.grownBy w' (some b) := by
  obtain ⟨E, h1, h2, h3⟩ := h
  obtain ⟨n, hn⟩ := run_findKey (w := w) h2 h3 k
  rw [hk] at hn
  refine ⟨setBlock w b (.map (entsL (E ++ [(k, v)])).toArray (E ++ [(k, v)]).length), ?_, ⟨E ++ [(k, v)], setBlock_at (heap_lt h1) _, ?_, ?_⟩, setBlock_grown _ _ _⟩
  · rw [entsL_snoc]
    simp [Instr.mapUpdate, run_underlying Tryz.underlying53, MapKept.run_getObj_map h1, checkStr, hn]
    simp only [SMapE] at h1
    simp [setObj, Sem.run, h1, setBlock]
  · exact (h2.append_right _).trans hp.symm
  · have hnk : k ∉ namesR o := by
      intro hm
      obtain ⟨⟨a, r⟩, hx, rfl⟩ := List.mem_map.1 hm
      rw [findR_of_mem h3 hx] at hk; cases hk
    have hp2 : (namesR o').Perm (namesR o ++ [k]) := by
      have := hp.map (·.1)
      rw [List.map_append] at this
      exact this
    rw [hp2.nodup_iff, List.nodup_append]
    exact ⟨h3, by simp, fun a ha c hc => by rw [List.mem_singleton.1 hc]; rintro rfl; exact hnk ha⟩
/-- .. at the operation. -/
theorem wpList_smap_update {P : Program} (hP : P = Tryz.prog) (w : World) {ops : Array Oper} {rest : List Oper} {o : Oper} {a : Act} {Q : Exit → Act → World → Prop}
    (hg : o.guard = none) (m x v : Operand) (hop : o.op = Op.mapUpdate 53 m x v ∨ o.op = Op.insert 53 m x v)
    {mb : Nat} {l l' : List Snp} (h : SMap w mb l) (k y : List UInt8) (hk : findR l k = none) (hp : l'.Perm (l ++ [(k, y)])) (hm : a.eval m = .map (some mb)) (hx : a.eval x = S k) (hv : a.eval v = S y)
    (hK : ∀ w', SMap w' mb l' → w.grownBy w' (some mb) → wpList P ops Q rest (a.put o.dst undef) w') : wpList P ops Q (o :: rest) a w := by
  subst hP
  refine wpList_plain hg fun K' hK' => ?_
  obtain ⟨w', hrun, r1, r2⟩ := h.update hk y hp
  unfold Oper.wp
  rcases hop with hop | hop
  · simp [execOp, hop, hm, hx, hv, hrun, Result.andThen]
    exact hK' _ _ (hK w' r1 r2)
  · simp [execOp, hop, hm, hx, hv, hrun, Result.andThen]
    exact hK' _ _ (hK w' r1 r2)
end Go.Proofs.YtbmdoekfbkpaeaaGreatDoor

namespace Go.Proofs.YtbmdoekfbkpaeaaGreatDoor
open Go.RowKit

theorem bldSize : (Tryz.prog.info? 150).map (·.size) = some 2 := by kernel_rfl
theorem bldLies : liesAt Tryz.prog Tryz.prog.depth 150 (2 / Tryz.prog.cellsOf 150) 0 150 1 = true := by kernel_rfl
abbrev IsBld (B b : Nat) (l : List UInt8) (w : World) : Prop := Lib.IsBuilder 150 5 B b (Lib.byteCells l) w

set_option maxHeartbeats 1100000 in
set_option maxRecDepth 100000 in
theorem ccheck_walk (B b : Nat) (bs : List Value) (w : World) (h : Lib.IsBuilder 150 5 B b bs w) :
    Calls Tryz.prog 134 #[.pointer (some ⟨b, 0, none⟩)] w fun e w' => e = .returned (.tuple #[]) ∧ (Lib.BuilderAt 150 5 B b (.pointer (some ⟨b, 0, none⟩)) bs w' ∧ Below B w w') := by
  obtain ⟨j, hj, hjs⟩ := Option.map_eq_some_iff.1 bldSize
  rcases h with h | h
  · have h0 := h.cell0
    have hsh := h.shape
    have hfz := h.frozen0
    have HB := Lib.hid h
    clear h
    go_enter Tryz.func134, Tryz.ntmps134
    go_wp2
    rw [Lib.run_to_unsafe w ⟨b, 0, none⟩ Tryz.underlying148 Tryz.underlying180 hj (by rw [hjs]; decide) hsh (Nat.zero_lt_succ 1)]
    simp only [Result.andThen]
    rw [Oper.upon_value]
    go_wp2
    rw [run_callFunc_extern Tryz.func142 (by kernel_rfl) (by kernel_rfl) (by kernel_rfl) (e := Extern.AbiNoEscape.same) (by kernel_rfl)]
    rw [Lib.run_noEscape]
    simp only [Result.andThen]
    rw [Oper.upon_value]
    go_wp2
    rw [Lib.run_from_unsafe w ⟨b, 0, none⟩ Tryz.underlying180 Tryz.underlying148 hj hsh bldLies]
    simp only [Result.andThen]
    rw [Oper.upon_value]
    go_wp2
    go_end0
    exact ⟨rfl, HB.out.used _, (Below.refl B w).setCell (p := ⟨b, 0, none⟩) HB.out.1 _⟩
  · have h0 := h.cell0
    have HB := Lib.hid h
    clear h
    go_enter Tryz.func134, Tryz.ntmps134
    go_wp2
    rw [Lib.run_neq_ptr_same w _ Tryz.underlying148 hj]
    go_wp2
    go_end0
    exact ⟨rfl, HB.out, Below.refl B _⟩

set_option maxHeartbeats 2000000 in
set_option maxRecDepth 100000 in
theorem wbyte_walk (B b : Nat) (l : List UInt8) (c : UInt8) (cv : Int) (w : World) (hcv : cv = (c.toNat : Int)) (h : IsBld B b l w) (hlen : l.length ≤ 1100000) (hBw : B ≤ w.heap.size) :
    Calls Tryz.prog 135 #[.pointer (some ⟨b, 0, none⟩), .int .u8 cv] w fun e w' => e = .returned .nilIface ∧ (IsBld B b (l ++ [c]) w' ∧ Below B w w') := by
  obtain ⟨i0, hi, hz0, hz1, hz2⟩ := info_parts infoByte
  subst hcv
  have C := ccheck_walk B b _ w h
  have hll : (Lib.byteCells l).length = l.length := by simp [Lib.byteCells]
  have HLL := Lib.hid hll
  have hla : (Lib.byteCells (l ++ [c])) = Lib.byteCells l ++ [.int .u8 (c.toNat : Int)] := by simp [Lib.byteCells]
  have HLA := Lib.hid hla
  have hbl : (Lib.byteCells l).length ≤ 1100000 := by omega
  unfold IsBld
  rw [hla]
  clear h hll hla
  generalize Lib.byteCells l = bs at *
  go_enter Tryz.func135, Tryz.ntmps135
  go_wp2_with fail
  refine C.mono ?_
  rintro e w1 ⟨rfl, h1, hb1⟩
  obtain ⟨hB, v, hbk, hown, hne⟩ := h1
  have c0 : w1.cell? ⟨b, 0, none⟩ = some (.pointer (some ⟨b, 0, none⟩)) := by rw [Lib.cell_of_heap hbk]; rfl
  have c1 : w1.cell? ⟨b, 1, none⟩ = some v := by rw [Lib.cell_of_heap hbk]; rfl
  have hsz1 := hb1.size
  go_wp2_with (at_builtin; refine wpList_append_own _ rfl _ _ 74 rfl B 5 i0 (.int .u8 0) 1 1 Tryz.underlying74 hi hz0 hz1 hz2 rfl (by decide) _ _ _ rfl (hown.alloc _) ⟨w1.heap.size, 0, none⟩ 1 1 [.int .u8 (c.toNat : Int)] rfl rfl (new_cell_at rfl _ _) (by intro u hu; simp at hu; subst hu; rfl) (by unfold maxLen; omega) (by omega) (by simp; omega) ?_)
  intro v' w2 hown' hgrow _
  have hlt : b < w1.heap.size := by
    rcases Nat.lt_or_ge b w1.heap.size with h' | h'
    · exact h'
    · simp [Array.getElem?_eq_none h'] at hbk
  have hb2 : w2.heap[b]? = some (.cells #[.pointer (some ⟨b, 0, none⟩), v] 150 (0, 0)) := by
    rw [hgrow.block b (by simp; omega) (fun e => hne e.symm), Lib.alloc_old w1 _ b hlt]
    exact hbk
  have d0 : w2.cell? ⟨b, 0, none⟩ = some (.pointer (some ⟨b, 0, none⟩)) := by rw [Lib.cell_of_heap hb2]; rfl
  have d1 : w2.cell? ⟨b, 1, none⟩ = some v := by rw [Lib.cell_of_heap hb2]; rfl
  have f1 : w2.frozen? ⟨b, 1, none⟩ = false := Lib.frozen_of_heap hb2 1
  obtain ⟨g, cap, rfl⟩ : ∃ g cap, v' = .slice (some ⟨g, 0, none⟩) (bs.length + 1) cap := by
    rcases hown'.2 with ⟨_, h0⟩ | ⟨g, cap, cur, hv, _⟩
    · omega
    · exact ⟨g, cap, hv⟩
  go_wp2
  go_ret
  refine ⟨rfl, .inr ?_, ?_⟩
  · exact Lib.BuilderAt.put (T := 150) (e := 5) hB hb2 (bs' := bs ++ [.int .u8 (c.toNat : Int)]) (by simpa using hown') (by decide)
  · exact ((hb1.alloc (by omega) _).grown hgrow (by simp; omega) (fun k hk => (hown.lt k hk).1)).setCell (p := ⟨b, 1, none⟩) hB _

theorem bstring_walk (B b : Nat) (l : List UInt8) (w : World) (h : IsBld B b l w) (hBw : B ≤ w.heap.size) :
    Calls Tryz.prog 119 #[.pointer (some ⟨b, 0, none⟩)] w fun e w' => e = .returned (S l) ∧ Below B w w' := Tryz.Builder_String_any B b l w h hBw
end Go.Proofs.YtbmdoekfbkpaeaaGreatDoor

namespace Go.Proofs.YtbmdoekfbkpaeaaGreatDoor
open Go.RowKit

theorem strCells_bytes (t : List UInt8) : Lib.strCells (⟨t.toArray⟩ : ByteArray) = Lib.byteCells t := by
  simp [Lib.strCells, Lib.byteCells]

set_option maxHeartbeats 2000000 in
set_option maxRecDepth 100000 in
theorem wstr_walk (B b : Nat) (l t : List UInt8) (w : World) (h : IsBld B b l w) (hlen : l.length ≤ 1100000) (htl : t.length ≤ 1100000) (ht0 : 0 < t.length) (hBw : B ≤ w.heap.size) :
    Calls Tryz.prog 117 #[.pointer (some ⟨b, 0, none⟩), S t] w fun e w' => (∃ q, e = .returned (.tuple #[.int .i64 q, .nilIface])) ∧ (IsBld B b (l ++ t) w' ∧ Below B w w') := by
  obtain ⟨i0, hi, hz0, hz1, hz2⟩ := info_parts infoByte
  have C := ccheck_walk B b _ w h
  have hll : (Lib.byteCells l).length = l.length := by simp [Lib.byteCells]
  have hla : (Lib.byteCells (l ++ t)) = Lib.byteCells l ++ Lib.strCells (⟨t.toArray⟩ : ByteArray) := by rw [strCells_bytes]; simp [Lib.byteCells]
  have hbl : (Lib.byteCells l).length ≤ 1100000 := by omega
  have hts : (⟨t.toArray⟩ : ByteArray).size = t.length := by simp [ByteArray.size]
  have HTS := Lib.hid hts
  have HT0 := Lib.hid ht0
  unfold IsBld
  rw [hla]
  clear h hll hla hts ht0
  generalize Lib.byteCells l = bs at *
  go_enter Tryz.func117, Tryz.ntmps117
  go_wp2_with fail
  refine C.mono ?_
  rintro e w1 ⟨rfl, h1, hb1⟩
  obtain ⟨hB, v, hbk, hown, hne⟩ := h1
  have c0 : w1.cell? ⟨b, 0, none⟩ = some (.pointer (some ⟨b, 0, none⟩)) := by rw [Lib.cell_of_heap hbk]; rfl
  have c1 : w1.cell? ⟨b, 1, none⟩ = some v := by rw [Lib.cell_of_heap hbk]; rfl
  have hsz1 := hb1.size
  go_wp2_with (at_builtin; refine Lib.wpList_append_own_string _ rfl _ _ 74 9 rfl B 5 i0 Tryz.underlying74 Tryz.underlying9 hi hz0 hz1 hz2 _ _ _ rfl hown (⟨t.toArray⟩ : ByteArray) rfl (by unfold maxLen; have := HTS.out; omega) (by have := HTS.out; omega) (by omega) ?_)
  intro v' w2 hown' hgrow _
  have hlt : b < w1.heap.size := by
    rcases Nat.lt_or_ge b w1.heap.size with h' | h'
    · exact h'
    · simp [Array.getElem?_eq_none h'] at hbk
  have hb2 : w2.heap[b]? = some (.cells #[.pointer (some ⟨b, 0, none⟩), v] 150 (0, 0)) := by
    rw [hgrow.block b hlt (fun e => hne e.symm)]
    exact hbk
  have d0 : w2.cell? ⟨b, 0, none⟩ = some (.pointer (some ⟨b, 0, none⟩)) := by rw [Lib.cell_of_heap hb2]; rfl
  have d1 : w2.cell? ⟨b, 1, none⟩ = some v := by rw [Lib.cell_of_heap hb2]; rfl
  have f1 : w2.frozen? ⟨b, 1, none⟩ = false := Lib.frozen_of_heap hb2 1
  obtain ⟨g, cap, rfl⟩ : ∃ g cap, v' = .slice (some ⟨g, 0, none⟩) (bs.length + t.length) cap := by
    rcases hown'.2 with ⟨_, h0⟩ | ⟨g, cap, cur, hv, _⟩
    · have := HTS.out; have := HT0.out; omega
    · exact ⟨g, cap, hv⟩
  have HOWN := Lib.hid hown'
  have HGR := Lib.hid hgrow
  have HOW := Lib.hid hown
  clear hown' hgrow hown
  have HL2 := Lib.hid (show (bs ++ Lib.strCells (⟨t.toArray⟩ : ByteArray)).length = bs.length + t.length by rw [strCells_bytes]; simp [Lib.byteCells])
  go_wp2
  go_ret2
  refine ⟨⟨_, rfl⟩, .inr ?_, ?_⟩
  · rw [← HL2.out]
    exact Lib.BuilderAt.put (T := 150) (e := 5) hB hb2 (bs' := bs ++ Lib.strCells (⟨t.toArray⟩ : ByteArray)) (by rw [HL2.out]; exact HOWN.out) (by decide)
  · exact (hb1.grown HGR.out (by omega) (fun k hk => (HOW.out.lt k hk).1)).setCell (p := ⟨b, 1, none⟩) hB _
end Go.Proofs.YtbmdoekfbkpaeaaGreatDoor

namespace Go.Proofs.YtbmdoekfbkpaeaaGreatDoor
open Go.RowKit

theorem or128' : ∀ x : Fin 256, bits BinOp.or IntKind.u8 ((x.val : Nat) : Int) 128 = ((x.val % 128 + 128 : Nat) : Int) := by decide +kernel
theorem or128 (k : Nat) : bits BinOp.or IntKind.u8 ((k : Int) % 256) 128 = ((k % 128 + 128 : Nat) : Int) := by
  have := or128' ⟨k % 256, Nat.mod_lt _ (by decide)⟩
  simp only [] at this
  rw [show ((k : Int) % 256) = ((k % 256 : Nat) : Int) by omega, this]
  omega

set_option maxHeartbeats 1100000 in
set_option maxRecDepth 100000 in
theorem pput_walk (n0 : Nat) (w : World) (hn0 : n0 < 2 ^ 64) :
    Calls Tryz.prog 118 #[.int .u64 n0] w fun e w' => e = .returned (S (putV n0)) ∧ Below w.heap.size w w' := by
  have hfr := Lib.fresh_isBuilder 150 5 w
  go_enter Tryz.func118, Tryz.ntmps118
  go_wp2
  go_loopw [0] (fun n wr => ∃ (k : Nat) (out : List UInt8), n = .int .u64 k ∧ out.length ≤ 9 ∧ k < 2 ^ (64 - 7 * out.length) ∧ putV n0 = out ++ putV k ∧ IsBld w.heap.size w.heap.size out wr ∧ Below w.heap.size w wr) (fun n _ => (intOf n).toNat)
  case atStart => exact ⟨n0, [], rfl, by simp, by simpa using hn0, rfl, hfr, (Below.refl _ _).alloc (Nat.le_refl _) _⟩
  case round =>
    obtain ⟨k, out, rfl, hol, hk, hp, hbld, hB⟩ := hrel
    have HP := Lib.hid hp
    have hsz := hB.size
    have hk64 := putV_word hol hk
    have HK := Lib.hid hk
    clear hk
    by_cases h1 : k < 128
    · have h1' : ¬ (127 : Int) < (k : Int) := by omega
      have HL := Lib.hid (putV_last hp h1)
      clear hp
      go_wp2_with fail
      refine (wbyte_walk w.heap.size w.heap.size out (UInt8.ofNat k) k wr (by simp; omega) hbld (by omega) hsz).mono ?_
      rintro e w1 ⟨rfl, hb1, hbb⟩
      have hB1 := hB.trans hbb
      go_wp2_with fail
      refine (bstring_walk w.heap.size w.heap.size _ w1 hb1 hB1.size).mono ?_
      rintro e w2 ⟨rfl, hb2⟩
      go_wp2
      go_ret
      exact ⟨by rw [HL.out]; rfl, hB1.trans hb2⟩
    · have h1' : (127 : Int) < (k : Int) := by omega
      have HL := Lib.hid (putV_step hp h1)
      obtain ⟨hr1, hr2⟩ := putV_room hol HK.out (by omega)
      clear hp
      go_wp2_with fail
      refine (wbyte_walk w.heap.size w.heap.size out (UInt8.ofNat (k % 128 + 128)) _ wr (by rw [or128]; simp; omega) hbld (by omega) hsz).mono ?_
      rintro e w1 ⟨rfl, hb1, hbb⟩
      have hB1 := hB.trans hbb
      go_wp2
      go_roundw
      case rel => exact ⟨k / 128, _, by go_num, by simp; omega, by simpa using hr2, HL.out, hb1, hB1⟩
      case measure => simp [intOf]; omega

set_option maxHeartbeats 1100000 in
set_option maxRecDepth 100000 in
theorem pputtext_walk (l : List UInt8) (w : World) (hl : l.length ≤ 1100000) :
    Calls Tryz.prog 120 #[S l] w fun e w' => e = .returned (S (putText l)) ∧ Below w.heap.size w w' := by
  have HT := Lib.hid (show putText l = if 65536 < l.length then [] else putV l.length ++ l from rfl)
  generalize putText l = tt at *
  by_cases h : 65536 < l.length
  · have h' : (65536 : Int) < (l.length : Int) := by omega
    have HT1 := Lib.hid (HT.out.trans (if_pos h))
    go_enter Tryz.func120, Tryz.ntmps120
    go_wp2
    go_ret
    exact ⟨by rw [HT1.out]; rfl, Below.refl _ _⟩
  · have h' : ¬ (65536 : Int) < (l.length : Int) := by omega
    have HT1 := Lib.hid (HT.out.trans (if_neg h))
    go_enter Tryz.func120, Tryz.ntmps120
    go_wp2_with fail
    refine (pput_walk l.length w (by omega)).mono ?_
    rintro e w1 ⟨rfl, hb⟩
    have hpl := putV_len (n := l.length) (by omega)
    have hns : ¬ 9223372036854775807 < (putV l.length).length + l.length := by omega
    go_wp2
    go_ret
    exact ⟨by rw [HT1.out, ← S_app]; rfl, hb⟩
end Go.Proofs.YtbmdoekfbkpaeaaGreatDoor
