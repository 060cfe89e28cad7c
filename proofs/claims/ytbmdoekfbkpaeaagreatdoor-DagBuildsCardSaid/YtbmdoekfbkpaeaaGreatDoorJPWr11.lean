/- The program's Write of a node, at the two nodes that awake() writes. Worlds in which one block alone turns. Arrays of words and of bytes in memory. -/
import Derived.Test.YtbmdoekfbkpaeaaGreatDoorJMapS
import Derived.Test.YtbmdoekfbkpaeaaGreatDoorPFit11
import Derived.Test.YtbmdoekfbkpaeaaGreatDoorJRowG
import Derived.Maps.AppendAt
import Derived.Test.YtbmdoekfbkpaeaaGreatDoorShaPlain
import Derived.Test.YtbmdoekfbkpaeaaGreatDoorJR11b
namespace Go.Proofs.YtbmdoekfbkpaeaaGreatDoor
open Go.RowKit

theorem putV_zero : putV 0 = [0] := putV_small (by omega)

theorem bld_on {B b : Nat} {l : List UInt8} {w w' : World} (h : IsBld B b l w) (hb : Below w.heap.size w w') : IsBld B b l w' := by
  rcases h with ⟨hB, v, hbk, hown, hne⟩ | ⟨hB, v, hbk, hown, hne⟩
  · exact .inl ⟨hB, v, (hb.block b (heap_lt hbk)).trans hbk, own_on hown hb, hne⟩
  · exact .inr ⟨hB, v, (hb.block b (heap_lt hbk)).trans hbk, own_on hown hb, hne⟩

set_option maxHeartbeats 4000000 in
set_option maxRecDepth 100000 in
theorem list0_walk (fv : Value) (w : World) :
    Calls Tryz.prog 95 #[.slice none 0 0, fv] w fun e w' => e = .returned (S [0]) ∧ Below w.heap.size w w' := by
  have hfr := Lib.fresh_isBuilder 150 5 w
  obtain ⟨w1, hw1, hb1, hz1⟩ : ∃ w1, w1 = w.alloc (.cells #[.pointer none, .slice none 0 0] 150) ∧ Below w.heap.size w w1 ∧ IsBld w.heap.size w.heap.size [] w1 :=
    ⟨_, rfl, (Below.refl _ _).alloc (Nat.le_refl _) _, hfr⟩
  have HB1 := Lib.hid hb1
  have HZ1 := Lib.hid hz1
  have CP : Calls Tryz.prog 118 #[.int .u64 0] w1 (fun e w' => e = .returned (S [0]) ∧ Below w1.heap.size w1 w') := by
    have h := pput_walk 0 w1 (by omega)
    rw [putV_zero] at h
    exact h
  clear hfr hb1 hz1
  go_enter Tryz.func95, Tryz.ntmps95
  go_upto_region 2 with fail
  rw [← hw1]
  clear hw1
  go_wp2_with fail
  refine CP.mono ?_
  rintro e w2 ⟨rfl, hb2⟩
  have hB2 := below_chain HB1.out hb2 HB1.out.size
  have CW := wstr_walk w.heap.size w.heap.size [] [0] w2 (bld_on HZ1.out hb2) (by simp) (by simp) (by simp) hB2.size
  have HB2 := Lib.hid hB2
  clear CP hb2 hB2
  go_wp2_with fail
  refine CW.mono ?_
  rintro e w3 ⟨⟨q, rfl⟩, hbld, hb3⟩
  have hB3 := HB2.out.trans hb3
  have HB3 := Lib.hid hB3
  have CS := bstring_walk w.heap.size w.heap.size ([] ++ [0]) w3 hbld hB3.size
  have HS3 := Lib.hid hB3.size
  clear CW hbld hb3 hB3
  go_wp2
  go_loopw [15] (fun i wr => i = .int .i64 0 ∧ wr = w3) (fun _ _ => 0)
  case atStart => exact ⟨rfl, rfl⟩
  case round =>
    obtain ⟨rfl, rfl⟩ := hrel
    go_wp2_with fail
    refine CS.mono ?_
    rintro e w4 ⟨rfl, hb4⟩
    go_wp2
    go_ret
    exact ⟨rfl, HB3.out.trans hb4⟩
theorem pconv1 (c : Nat) (b : UInt8) (W : World) (g : Nat) (h : W.cell? ⟨g, 0, none⟩ = some (.int .u8 (b.toNat : Int))) : (convert 74 9 (.slice (some ⟨g, 0, none⟩) 1 c)).run Tryz.prog W = .ok (.string ⟨#[b]⟩) W := by
  refine run_convert_bytes_back W _ _ 5 _ _ [b] Tryz.underlying74 Tryz.underlying5 Tryz.underlying9 fun j hj => ?_
  obtain rfl : j = 0 := by simp at hj; omega
  simpa [Addr.add] using h

set_option maxHeartbeats 4000000 in
set_option maxRecDepth 100000 in
theorem pwr_one (w : World) :
    Calls Tryz.prog 75 #[NodV ⟨1, [97], [], []⟩ (.slice none 0 0) (.slice none 0 0)] w fun e w' => e = .returned (S [1, 97]) ∧ Below w.heap.size w w' := by
  obtain ⟨w1, hw1, hB1, hz⟩ : ∃ w1, w1 = w.alloc (.cells #[.int .i64 1, S [97], .slice none 0 0, .slice none 0 0] 40) ∧ Below w.heap.size w w1 ∧ w1.heap[w.heap.size]? = some (.cells #[.int .i64 1, S [97], .slice none 0 0, .slice none 0 0] 40 (0, 0)) :=
    ⟨_, rfl, (Below.refl _ _).alloc (Nat.le_refl _) _, heap_alloc_new _ _⟩
  have CF := pfit11_walk (.slice none 0 0) (.slice none 0 0) ⟨1, [97], [], []⟩ w1 ⟨Row.nil _ _, Row.nil _ _⟩ (by simp) (by simp) (by simp) (by simp)
  rw [fitN_iff.2 (show FitN ⟨1, [97], [], []⟩ from .inl ⟨rfl, by simp, by simp, rfl, rfl⟩)] at CF
  obtain ⟨⟨z0, z1, z2, z3⟩, -, -⟩ := box4 hz
  go_enter Tryz.func75, Tryz.ntmps75
  go_upto_region 1 with fail
  rw [← hw1]
  clear hw1
  go_wp2_with fail
  refine CF.mono ?_
  rintro e w2 ⟨rfl, hb2⟩
  have hz2 := (hb2.block _ (heap_lt hz)).trans hz
  have hB2 := below_chain hB1 hb2 hB1.size
  clear CF hz hB1 hb2 z0 z1 z2 z3
  obtain ⟨w3, hw3, hz3, hB3, hc3⟩ : ∃ w3, w3 = w2.alloc (.cells #[.int .u8 1] 5) ∧ w3.heap[w.heap.size]? = some (.cells #[.int .i64 1, S [97], .slice none 0 0, .slice none 0 0] 40 (0, 0)) ∧ Below w.heap.size w w3 ∧ w3.cell? ⟨w2.heap.size, 0, none⟩ = some (.int .u8 1) :=
    ⟨_, rfl, (((Below.refl _ _).alloc (Nat.le_refl _) _).block _ (heap_lt hz2)).trans hz2, hB2.alloc hB2.size _, cell_new _ _ _ _ rfl⟩
  have hcv := pconv1 1 (1 : UInt8) w3 w2.heap.size hc3
  obtain ⟨⟨z0, z1, z2, z3⟩, -, -⟩ := box4 hz2
  obtain ⟨⟨y0, y1, y2, y3⟩, -, -⟩ := box4 hz3
  have z0a := fun o => cell_old z0 o
  have hcat : (⟨#[1]⟩ : ByteArray) ++ (⟨#[97]⟩ : ByteArray) = ⟨#[1, 97]⟩ := rfl
  go_upto_region 4 with fail
  rw [← hw3, hcv]
  clear hw3 hcv z0a z0 z1 z2 z3
  simp only [Result.andThen]
  rw [Oper.upon_value]
  go_wp2
  go_ret
  exact ⟨rfl, hB3⟩

set_option maxHeartbeats 4000000 in
set_option maxRecDepth 100000 in
theorem pwr_two (w : World) :
    Calls Tryz.prog 75 #[NodV ⟨2, [], [], []⟩ (.slice none 0 0) (.slice none 0 0)] w fun e w' => e = .returned (S [2, 0]) ∧ Below w.heap.size w w' := by
  obtain ⟨w1, hw1, hB1, hz⟩ : ∃ w1, w1 = w.alloc (.cells #[.int .i64 2, S [], .slice none 0 0, .slice none 0 0] 40) ∧ Below w.heap.size w w1 ∧ w1.heap[w.heap.size]? = some (.cells #[.int .i64 2, S [], .slice none 0 0, .slice none 0 0] 40 (0, 0)) :=
    ⟨_, rfl, (Below.refl _ _).alloc (Nat.le_refl _) _, heap_alloc_new _ _⟩
  have CF := pfit11_walk (.slice none 0 0) (.slice none 0 0) ⟨2, [], [], []⟩ w1 ⟨Row.nil _ _, Row.nil _ _⟩ (by simp) (by simp) (by simp) (by simp)
  rw [fitN_iff.2 (show FitN ⟨2, [], [], []⟩ from .inr (.inl ⟨rfl, rfl, rfl, ⟨by simp, by simp, by simp [wholeP]⟩⟩))] at CF
  obtain ⟨⟨z0, z1, z2, z3⟩, -, -⟩ := box4 hz
  go_enter Tryz.func75, Tryz.ntmps75
  go_upto_region 1 with fail
  rw [← hw1]
  clear hw1
  go_wp2_with fail
  refine CF.mono ?_
  rintro e w2 ⟨rfl, hb2⟩
  have hz2 := (hb2.block _ (heap_lt hz)).trans hz
  have hB2 := below_chain hB1 hb2 hB1.size
  clear CF hz hB1 hb2 z0 z1 z2 z3
  obtain ⟨w3, hw3, hz3, hB3, hc3⟩ : ∃ w3, w3 = w2.alloc (.cells #[.int .u8 2] 5) ∧ w3.heap[w.heap.size]? = some (.cells #[.int .i64 2, S [], .slice none 0 0, .slice none 0 0] 40 (0, 0)) ∧ Below w.heap.size w w3 ∧ w3.cell? ⟨w2.heap.size, 0, none⟩ = some (.int .u8 2) :=
    ⟨_, rfl, (((Below.refl _ _).alloc (Nat.le_refl _) _).block _ (heap_lt hz2)).trans hz2, hB2.alloc hB2.size _, cell_new _ _ _ _ rfl⟩
  have hcv := pconv1 1 (2 : UInt8) w3 w2.heap.size hc3
  obtain ⟨⟨z0, z1, z2, z3⟩, -, -⟩ := box4 hz2
  obtain ⟨⟨y0, y1, y2, y3⟩, -, -⟩ := box4 hz3
  have z0a := fun o => cell_old z0 o
  have hcat : (⟨#[2]⟩ : ByteArray) ++ (⟨#[0]⟩ : ByteArray) = ⟨#[2, 0]⟩ := rfl
  have CL := fun fv => list0_walk fv w3
  go_upto_region 4 with fail
  rw [← hw3, hcv]
  clear hw3 hcv z0a z0 z1 z2 z3
  simp only [Result.andThen]
  rw [Oper.upon_value]
  go_wp2_with (go_at_call 95; refine (CL _).mono ?_; rintro e w4 ⟨rfl, hb4⟩)
  go_ret
  exact ⟨rfl, below_chain hB3 hb4 hB3.size⟩
end Go.Proofs.YtbmdoekfbkpaeaaGreatDoor

namespace Go.Proofs.YtbmdoekfbkpaeaaGreatDoor
open Go.RowKit

/-- Of the old blocks only g may have turned. -/
abbrev Gro (g : Nat) (w w' : World) : Prop := w.grownBy w' (some g)
theorem gro_of {g : Nat} {w w' : World} (h : Below w.heap.size w w') : Gro g w w' := ⟨h.os, h.tape, h.output, h.size, fun k hk _ => h.block k hk⟩
theorem gro_chain {g : Nat} {w w1 w2 : World} (h : Gro g w w1) (h2 : Below w1.heap.size w1 w2) : Gro g w w2 := World.grownBy.trans h (gro_of h2)
theorem gro_set {g : Nat} {w w1 : World} (h : Gro g w w1) (o : Nat) (v : Value) : Gro g w (w1.setCell ⟨g, o, none⟩ v) :=
  World.grownBy.trans h ⟨rfl, rfl, rfl, by simp, fun k hk hne => by
    have hne' : k ≠ g := fun e => hne (by rw [e])
    simp [World.setCell, Array.getElem?_modify, hne'.symm]⟩
theorem gro_below {g B : Nat} {w w' : World} (h : Gro g w w') (hg : B ≤ g) (hw : B ≤ w.heap.size) : Below B w w' :=
  (Below.refl B w).grown h hw (fun j hj => by cases hj; exact hg)
theorem gro_cell {g : Nat} {w w' : World} (h : Gro g w w') {b o : Nat} {v : Value} (hb : b ≠ g) (hc : w.cell? ⟨b, o, none⟩ = some v) : w'.cell? ⟨b, o, none⟩ = some v :=
  h.cell hc (fun e => hb (Option.some.inj e))
theorem gro_own {g : Nat} {w w' : World} {base e k n : Nat} {v : Value} {xs : List Value} (h : w.ownsRow base e k v n xs) (hb : Gro g w w') (hg : g < base) : w'.ownsRow base e k v n xs :=
  h.kept hb (by
    rcases h.2 with ⟨h, _⟩ | ⟨b, cap, cur, h, hge, _⟩
    · rw [h]; exact .inl rfl
    · rw [h]; refine .inr ?_; simp [Value.ownBlock]; omega)
theorem gro_row {α : Type} {f : α → List Value} {g : Nat} {w w' : World} {v : Value} {l : List α} (h : Row f w v l) (hb : Gro g w w') (hg : ∀ j, v.ownBlock = some j → j ≠ g) : Row f w' v l := by
  obtain ⟨a, c, rfl, hc, hm, hx⟩ := h
  refine ⟨a, c, rfl, hc, hm, ?_⟩
  rcases hx with hx | ⟨b, o, rfl, hx⟩
  · exact .inl hx
  · exact .inr ⟨b, o, rfl, fun j x hj i u hu => gro_cell hb (hg b (by simp [Value.ownBlock])) (hx j x hj i u hu)⟩
end Go.Proofs.YtbmdoekfbkpaeaaGreatDoor

namespace Go.Proofs.YtbmdoekfbkpaeaaGreatDoor
open Go.RowKit

def wV (n : Nat) : Value := .int .u32 n
def bV (c : UInt8) : Value := .int .u8 (c.toNat : Nat)

section
variable {P : Program}
theorem run_index_agg (t e : TypeId) (n k : Nat) (cs : Array Value) (v : Value) (d : TypeDesc) (h : P.underlying t = some (.array n e)) (he : P.underlying e = some d) (hd : (match d with | .struct _ | .array _ _ => true | _ => false) = false)
    (hs : (P.info? e).map (·.size) = some 1) (hk : k < n) (hc : cs[k]? = some v) (w : World) :
    (Instr.index t (.agg cs) (.int .i64 k)).run P w = .ok v w := by
  have hagg : (isAgg e).run P w = .ok false w := by
    unfold isAgg
    rw [Sem.run_bind, run_underlying he w]
    cases d <;> simp_all
  have hk' : 0 ≤ (k : Int) ∧ (k : Int) < (n : Int) := ⟨by omega, by omega⟩
  cases hq : P.info? e with
  | none => simp [hq] at hs
  | some i =>
    have hi : i.size = 1 := by simpa [hq] using hs
    simp [Instr.index, run_underlying h, asIntOf, hk, part, hagg, sizeOf, typeInfo, hq, hi, hc]
/-- a whole array read out of a block. -/
theorem run_load_part (w : World) (g o : Nat) (ty : TypeId) (cs : List Value) (d : TypeDesc) (hc : ∀ j v, cs[j]? = some v → w.cell? ⟨g, o + j, none⟩ = some v)
    (hu : P.underlying ty = some d) (hd : (match d with | .struct _ | .array _ _ => true | _ => false) = true) (hi : (P.info? ty).map (·.size) = some cs.length) :
    (loadVar ty ⟨g, o, none⟩).run P w = .ok (.agg cs.toArray) w := by
  have hl : (loadCells ⟨g, o, none⟩ cs.length).run P w = .ok cs.toArray w :=
    run_loadCells_list (P := P) w ⟨g, o, none⟩ cs (fun j v hv => by
      have hadd : (⟨g, o, none⟩ : Addr).add j = ⟨g, o + j, none⟩ := by unfold Addr.add; split <;> simp_all
      rw [hadd]
      exact hc j v hv)
  cases hq : P.info? ty with
  | none => simp [hq] at hi
  | some i =>
    have hs : i.size = cs.length := by simpa [hq] using hi
    have hagg : (isAgg ty).run P w = .ok true w := by
      unfold isAgg
      rw [Sem.run_bind, run_underlying hu w]
      cases d <;> simp_all
    simp [loadVar, Sem.run_bind, hagg, sizeOf, typeInfo, hq, hs, hl]
theorem wpList_load_at {ops : Array Oper} {rest : List Oper} {o : Oper} {a : Act} {w : World} {Q : Exit → Act → World → Prop} (hgd : o.guard = none) (ty : TypeId) (x : Operand) (ho : o.op = .load ty x) (ad : Addr) (hx : a.eval x = .pointer (some ad)) (v : Value)
    (hr : (loadVar ty ad).run P w = .ok v w) (h : wpList P ops Q rest (a.put o.dst v) w) : wpList P ops Q (o :: rest) a w := by
  refine wpList_plain hgd fun K hK => ?_
  unfold Oper.wp execOp
  simp only [ho, hx, Instr.loadAt, Instr.sureAddr, Sem.run_bind, Sem.run_pure, Result.andThen_ok, hr]
  exact hK _ _ h
theorem wpQuiet_load {ops : Array Oper} {C : World → Prop} {Q : Act → Prop} {a : Act} {o : Oper} {rest : List Oper} (hg : o.guard = none) (ty : TypeId) (x : Operand) (ho : o.op = .load ty x) (ad : Addr) (hx : a.eval x = .pointer (some ad)) (v : Value)
    (hr : ∀ w, C w → (loadVar ty ad).run P w = .ok v w) (h : wpQuiet P ops C Q rest (a.put o.dst v)) : wpQuiet P ops C Q (o :: rest) a := by
  refine wpQuiet_step fun K hK => ?_
  have hw : Region.wanted o (yielded ops a.tmps) = true := by simp [Region.wanted, hg]
  rw [if_pos hw]
  refine ⟨v, fun w hw => ?_, hK _ h⟩
  unfold Oper.quietAt execOp
  simp only [ho, hx, Instr.loadAt, Instr.sureAddr, Sem.run_bind, Sem.run_pure, Result.andThen_ok, hr w hw]
  exact ⟨rfl, rfl⟩
/-- .. written into one, at its head. -/
theorem run_store_head (w : World) (g : Nat) (t : TypeId) (cur : List Value) (cs : List Value) (hg : w.heap[g]? = some (.cells cur.toArray t (0, 0))) (ho : cs.length ≤ cur.length) (h1 : ∀ v ∈ cs, v.oneCell' = true) :
    (storeCells ⟨g, 0, none⟩ cs).run P w = .ok () (w.setRow g (cs ++ cur.drop cs.length).toArray) := by
  have := run_storeCells_at P g 0 t cs 0 cur.toArray w hg (by simpa using ho) h1
  simpa using this
end

theorem heap_alloc3 (w : World) (A B C : Obj) : (((w.alloc A).alloc B).alloc C).heap[w.heap.size + 1 + 1]? = some C := by
  have := heap_alloc_new ((w.alloc A).alloc B) C
  simpa using this
/-- cells one behind the other in block g, and not frozen. -/
theorem arr_cell {w : World} {g : Nat} {cs : Array Value} {t : TypeId} (h : w.heap[g]? = some (.cells cs t (0, 0))) {i : Nat} {v : Value} (hv : cs[i]? = some v) : w.cell? ⟨g, i, none⟩ = some v := by
  rw [cell_of_row w g i cs t (0, 0) h]; exact hv
theorem map_at {α : Type} {f : α → Value} {l : List α} {i : Nat} (h : i < l.length) : (l.map f).toArray[i]? = some (f l[i]) := by simp [h]

/-- words, and zeros behind them: n in all. -/
def cellsW (n : Nat) (ws : List Nat) : Array Value := (ws.map wV ++ List.replicate (n - ws.length) (Value.int .u32 0)).toArray
theorem cellsW_size {n : Nat} {ws : List Nat} (h : ws.length ≤ n) : (cellsW n ws).size = n := by simp [cellsW]; omega
theorem cellsW_at {n : Nat} {ws : List Nat} {i : Nat} (h : i < ws.length) : (cellsW n ws)[i]? = some (wV ws[i]) := by
  simp [cellsW, List.getElem?_append_left, h]
theorem cellsW_zero {n : Nat} {ws : List Nat} {i : Nat} (h : ws.length ≤ i) (hn : i < n) : (cellsW n ws)[i]? = some (.int .u32 0) := by
  simp only [cellsW, List.getElem?_toArray]
  rw [List.getElem?_append_right (by simpa using h), List.getElem?_replicate, if_pos (by simp; omega)]
theorem cellsW_set {n : Nat} {ws : List Nat} (x : Nat) (h : ws.length < n) : (cellsW n ws).setIfInBounds ws.length (wV x) = cellsW n (ws ++ [x]) := by
  apply Array.ext'
  simp only [cellsW, Array.toList_setIfInBounds]
  rw [List.set_append_right _ _ (by simp), List.length_map, Nat.sub_self]
  obtain ⟨m, hm⟩ : ∃ m, n - ws.length = m + 1 := ⟨n - ws.length - 1, by omega⟩
  rw [hm, List.replicate_succ, List.set_cons_zero, List.map_append, List.length_append, List.length_singleton, show n - (ws.length + 1) = m by omega, List.append_assoc]
  rfl
theorem cellsW_all {n : Nat} {ws : List Nat} (h : ws.length = n) : cellsW n ws = (ws.map wV).toArray := by
  simp [cellsW, h]
theorem one_map {α : Type} {f : α → Value} (hf : ∀ x, (f x).oneCell' = true) (l : List α) : (l.map f).toArray.all (·.oneCell') = true := by
  simp [hf]
/-- a word of a row of words turns. -/
theorem arr_set {w w0 : World} {B g i x : Nat} {ws : List Nat} {t : TypeId} (h : w.heap[g]? = some (.cells (ws.map wV).toArray t (0, 0))) (hb : Below B w0 w) (hB : B ≤ g) :
    (w.setCell ⟨g, i, none⟩ (wV x)).heap[g]? = some (.cells ((ws.set i x).map wV).toArray t (0, 0)) ∧ Below B w0 (w.setCell ⟨g, i, none⟩ (wV x)) := by
  refine ⟨?_, hb.setCell (p := ⟨g, i, none⟩) hB _⟩
  rw [heap_setCell_same w g i _ t _ h, List.map_set]
  simp
theorem arr_frozen {w : World} {g i : Nat} {cs : Array Value} {t : TypeId} (h : w.heap[g]? = some (.cells cs t (0, 0))) : w.frozen? ⟨g, i, none⟩ = false := frozen_of_row w g i cs t h
theorem or_val {x c k : Nat} (hx : x < 4294967296) (hc : c < 256) : bits BinOp.or IntKind.u32 (x : Int) ((c : Int) % 4294967296 * 2 ^ (24 - 8 * (k % 4)) % 4294967296) = ((x ||| c * 2 ^ (24 - 8 * (k % 4)) : Nat) : Int) := by
  have h2 : c * 2 ^ (24 - 8 * (k % 4)) < 4294967296 := by
    have : 2 ^ (24 - 8 * (k % 4)) ≤ 2 ^ 24 := Nat.pow_le_pow_right (by decide) (by omega)
    calc c * 2 ^ (24 - 8 * (k % 4)) ≤ 255 * 2 ^ 24 := Nat.mul_le_mul (by omega) this
      _ < 4294967296 := by decide
  have e : (c : Int) % 4294967296 * 2 ^ (24 - 8 * (k % 4)) % 4294967296 = ((c * 2 ^ (24 - 8 * (k % 4)) : Nat) : Int) := by
    rw [show (c : Int) % 4294967296 = (c : Int) by omega, cast_lo, Nat.mod_eq_of_lt h2]
  rw [e, u32_or_nat _ _ hx h2]
/-- .. the first of the zeros. -/
theorem arr_push {w w0 : World} {B g x n : Nat} {ws : List Nat} {t : TypeId} (h : w.heap[g]? = some (.cells (cellsW n ws) t (0, 0))) (hn : ws.length < n) (hb : Below B w0 w) (hB : B ≤ g) :
    (w.setCell ⟨g, ws.length, none⟩ (wV x)).heap[g]? = some (.cells (cellsW n (ws ++ [x])) t (0, 0)) ∧ Below B w0 (w.setCell ⟨g, ws.length, none⟩ (wV x)) := by
  refine ⟨?_, hb.setCell (p := ⟨g, ws.length, none⟩) hB _⟩
  rw [heap_setCell_same w g _ _ t _ h, cellsW_set x hn]
theorem arr_push' {w : World} {g x n : Nat} {ws : List Nat} {t : TypeId} (h : w.heap[g]? = some (.cells (cellsW n ws) t (0, 0))) (hn : ws.length < n) :
    (w.setCell ⟨g, ws.length, none⟩ (wV x)).heap[g]? = some (.cells (cellsW n (ws ++ [x])) t (0, 0)) := by
  rw [heap_setCell_same w g _ _ t _ h, cellsW_set x hn]
theorem laid_row (w : World) (A cs : Array Value) (t : TypeId) : ((w.alloc (.cells A t)).setRow w.heap.size cs).heap[w.heap.size]? = some (.cells cs t (0, 0)) ∧ Below w.heap.size w ((w.alloc (.cells A t)).setRow w.heap.size cs) :=
  ⟨setRow_heap _ _ _ _ _ _ (heap_alloc_new _ _), below_setRow ((Below.refl _ _).alloc (Nat.le_refl _) _) (Nat.le_refl _) _⟩
/-- eight words in memory. -/
theorem box8 {w : World} {g : Nat} {t : TypeId} {v : H8} (h : w.heap[g]? = some (.cells (v.words.map wV).toArray t (0, 0))) :
    (w.cell? ⟨g, 0, none⟩ = some (.int .u32 (v.a : Nat)) ∧ w.cell? ⟨g, 1, none⟩ = some (.int .u32 (v.b : Nat)) ∧ w.cell? ⟨g, 2, none⟩ = some (.int .u32 (v.c : Nat)) ∧ w.cell? ⟨g, 3, none⟩ = some (.int .u32 (v.d : Nat)) ∧ w.cell? ⟨g, 4, none⟩ = some (.int .u32 (v.e : Nat)) ∧ w.cell? ⟨g, 5, none⟩ = some (.int .u32 (v.f : Nat)) ∧ w.cell? ⟨g, 6, none⟩ = some (.int .u32 (v.g : Nat)) ∧ w.cell? ⟨g, 7, none⟩ = some (.int .u32 (v.h : Nat))) :=
  ⟨arr_cell h rfl, arr_cell h rfl, arr_cell h rfl, arr_cell h rfl, arr_cell h rfl, arr_cell h rfl, arr_cell h rfl, arr_cell h rfl⟩
theorem set_at {w : World} {g : Nat} {t : TypeId} {l : List Value} (h : w.heap[g]? = some (.cells l.toArray t (0, 0))) (i : Nat) (x : Value) : (w.setCell ⟨g, i, none⟩ x).heap[g]? = some (.cells (l.set i x).toArray t (0, 0)) := by
  rw [heap_setCell_same w g i _ t x h]
  simp
/-- all eight turned, the last one first. -/
theorem set8 {w : World} {g : Nat} {t : TypeId} {v : H8} (h : w.heap[g]? = some (.cells (v.words.map wV).toArray t (0, 0))) (x0 x1 x2 x3 x4 x5 x6 x7 : Value) :
    ((((((((w.setCell ⟨g, 7, none⟩ x7).setCell ⟨g, 6, none⟩ x6).setCell ⟨g, 5, none⟩ x5).setCell ⟨g, 4, none⟩ x4).setCell ⟨g, 3, none⟩ x3).setCell ⟨g, 2, none⟩ x2).setCell ⟨g, 1, none⟩ x1).setCell ⟨g, 0, none⟩ x0).heap[g]? = some (.cells [x0, x1, x2, x3, x4, x5, x6, x7].toArray t (0, 0)) := by
  have h' := set_at (set_at (set_at (set_at (set_at (set_at (set_at (set_at h 7 x7) 6 x6) 5 x5) 4 x4) 3 x3) 2 x2) 1 x1) 0 x0
  simp only [H8.words, List.map_cons, List.map_nil, List.set_cons_succ, List.set_cons_zero] at h'
  exact h'
theorem gro_set8 {w0 w : World} {g : Nat} (h : Gro g w0 w) (x0 x1 x2 x3 x4 x5 x6 x7 : Value) :
    Gro g w0 ((((((((w.setCell ⟨g, 7, none⟩ x7).setCell ⟨g, 6, none⟩ x6).setCell ⟨g, 5, none⟩ x5).setCell ⟨g, 4, none⟩ x4).setCell ⟨g, 3, none⟩ x3).setCell ⟨g, 2, none⟩ x2).setCell ⟨g, 1, none⟩ x1).setCell ⟨g, 0, none⟩ x0) :=
  gro_set (gro_set (gro_set (gro_set (gro_set (gro_set (gro_set (gro_set h 7 _) 6 _) 5 _) 4 _) 3 _) 2 _) 1 _) 0 _
/-- bytes, and zeros behind them: n in all. -/
def cellsBy (n : Nat) (bs : List UInt8) : Array Value := (bs.map bV ++ List.replicate (n - bs.length) (Value.int .u8 0)).toArray
theorem cellsBy_zero {n : Nat} {ws : List UInt8} {i : Nat} (h : ws.length ≤ i) (hn : i < n) : (cellsBy n ws)[i]? = some (.int .u8 0) := by
  simp only [cellsBy, List.getElem?_toArray]
  rw [List.getElem?_append_right (by simpa using h), List.getElem?_replicate, if_pos (by simp; omega)]
theorem cellsBy_set {n : Nat} {ws : List UInt8} (x : UInt8) (h : ws.length < n) : (cellsBy n ws).setIfInBounds ws.length (bV x) = cellsBy n (ws ++ [x]) := by
  apply Array.ext'
  simp only [cellsBy, Array.toList_setIfInBounds]
  rw [List.set_append_right _ _ (by simp), List.length_map, Nat.sub_self]
  obtain ⟨m, hm⟩ : ∃ m, n - ws.length = m + 1 := ⟨n - ws.length - 1, by omega⟩
  rw [hm, List.replicate_succ, List.set_cons_zero, List.map_append, List.length_append, List.length_singleton, show n - (ws.length + 1) = m by omega, List.append_assoc]
  rfl
theorem cellsBy_all {n : Nat} {ws : List UInt8} (h : ws.length = n) : cellsBy n ws = (ws.map bV).toArray := by
  simp [cellsBy, h]
theorem arr_pushB {w : World} {g n : Nat} {x : UInt8} {ws : List UInt8} {t : TypeId} (h : w.heap[g]? = some (.cells (cellsBy n ws) t (0, 0))) (hn : ws.length < n) :
    (w.setCell ⟨g, ws.length, none⟩ (bV x)).heap[g]? = some (.cells (cellsBy n (ws ++ [x])) t (0, 0)) := by
  rw [heap_setCell_same w g _ _ t _ h, cellsBy_set x hn]
end Go.Proofs.YtbmdoekfbkpaeaaGreatDoor
