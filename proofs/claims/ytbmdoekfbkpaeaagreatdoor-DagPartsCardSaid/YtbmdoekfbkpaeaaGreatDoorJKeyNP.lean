/- A node's key: plain. Worlds in which one block alone turns. Arrays of words and of bytes in memory. The reference's sums. Regions that draw their order: the first m operations, quiet in a class of worlds, are walked once; then those that wait for all of them. No program in sight. -/
import Derived.Test.YtbmdoekfbkpaeaaGreatDoorR11c
import Derived.Test.YtbmdoekfbkpaeaaGreatDoorShaPlain
import Derived.Test.YtbmdoekfbkpaeaaGreatDoorJNodePlain
import Derived.Maps.AppendAt
import Derived.Test.YtbmdoekfbkpaeaaGreatDoorJR11
namespace Go.Proofs.YtbmdoekfbkpaeaaGreatDoor
open Go.RowKit

theorem writeN_len {n : Nod} : (writeN n).length ≤ 100000 := by
  unfold writeN
  split
  · rename_i h
    have hf := fitN_iff.1 h
    obtain ⟨kd, d, ps, es⟩ := n
    rcases hf with ⟨h1, h2, h3, h4, h5⟩ | ⟨h1, h2, h3, h4⟩ | ⟨h1, h2, h3, h4⟩
    · simp only at h1 h3; subst h1
      show (_ :: d).length ≤ _
      rw [List.length_cons]; omega
    · simp only at h1 h4; subst h1
      show (_ :: (putV ps.length ++ ps.flatMap partW)).length ≤ _
      have h6 := putV_len (n := ps.length) (by have := h4.len; omega)
      have h7 := flat_bound (f := partW) (B := 42) (l := ps) (fun x hx => partW_len (h4.ok x hx))
      have := h4.len
      rw [List.length_cons, List.length_append]; omega
    · simp only at h1 h4; subst h1
      show (_ :: (putV es.length ++ es.flatMap entW)).length ≤ _
      have h6 := putV_len (n := es.length) (by have := h4.len; omega)
      have h7 := flat_bound (f := entW) (B := 74) (l := es) (fun x hx => entW_len (h4.ok x hx))
      have := h4.len
      rw [List.length_cons, List.length_append]; omega
  · simp

/-- a node's key. -/
noncomputable def keyN (n : Nod) : List UInt8 := if fitN n = true then shaF (writeN n) else []
end Go.Proofs.YtbmdoekfbkpaeaaGreatDoor

namespace Go.Proofs.YtbmdoekfbkpaeaaGreatDoor
open Go.RowKit

/-- Of the old blocks only g may have turned. -/
abbrev Gro (g : Nat) (w w' : World) : Prop := w.grownBy w' (some g)
theorem gro_of {g : Nat} {w w' : World} (h : Below w.heap.size w w') : Gro g w w' := ⟨h.os, h.tape, h.output, h.size, fun k hk _ => h.block k hk⟩
theorem gro_chain {g : Nat} {w w1 w2 : World} (h : Gro g w w1) (h2 : Below w1.heap.size w1 w2) : Gro g w w2 := World.grownBy.trans h (gro_of h2)
theorem gro_set {g : Nat} {w w1 : World} (h : Gro g w w1) (o : Nat) (v : Value) : Gro g w (w1.setCell ⟨g, o, none⟩ v) :=
  World.grownBy.trans h ⟨rfl, rfl, rfl, by simp, fun k hk hne => by
    have hne' : k ≠ g := fun e => hne (by rw [e])
    simp [World.setCell, Array.getElem?_modify, hne'.symm]⟩
theorem gro_below {g B : Nat} {w w' : World} (h : Gro g w w') (hg : B ≤ g) (hw : B ≤ w.heap.size) : Below B w w' :=
  (Below.refl B w).grown h hw (fun j hj => by cases hj; exact hg)
theorem gro_cell {g : Nat} {w w' : World} (h : Gro g w w') {b o : Nat} {v : Value} (hb : b ≠ g) (hc : w.cell? ⟨b, o, none⟩ = some v) : w'.cell? ⟨b, o, none⟩ = some v :=
  h.cell hc (fun e => hb (Option.some.inj e))
theorem gro_own {g : Nat} {w w' : World} {base e k n : Nat} {v : Value} {xs : List Value} (h : w.ownsRow base e k v n xs) (hb : Gro g w w') (hg : g < base) : w'.ownsRow base e k v n xs :=
  h.kept hb (by
    rcases h.2 with ⟨h, _⟩ | ⟨b, cap, cur, h, hge, _⟩
    · rw [h]; exact .inl rfl
    · rw [h]; refine .inr ?_; simp [Value.ownBlock]; omega)
theorem gro_row {α : Type} {f : α → List Value} {g : Nat} {w w' : World} {v : Value} {l : List α} (h : Row f w v l) (hb : Gro g w w') (hg : ∀ j, v.ownBlock = some j → j ≠ g) : Row f w' v l := by
  obtain ⟨a, c, rfl, hc, hm, hx⟩ := h
  refine ⟨a, c, rfl, hc, hm, ?_⟩
  rcases hx with hx | ⟨b, o, rfl, hx⟩
  · exact .inl hx
  · exact .inr ⟨b, o, rfl, fun j x hj i u hu => gro_cell hb (hg b (by simp [Value.ownBlock])) (hx j x hj i u hu)⟩
end Go.Proofs.YtbmdoekfbkpaeaaGreatDoor

namespace Go.Proofs.YtbmdoekfbkpaeaaGreatDoor
open Go.RowKit

def wV (n : Nat) : Value := .int .u32 n
def bV (c : UInt8) : Value := .int .u8 (c.toNat : Nat)

section
variable {P : Program}
theorem run_index_agg (t e : TypeId) (n k : Nat) (cs : Array Value) (v : Value) (d : TypeDesc) (h : P.underlying t = some (.array n e)) (he : P.underlying e = some d) (hd : (match d with | .struct _ | .array _ _ => true | _ => false) = false)
    (hs : (P.info? e).map (·.size) = some 1) (hk : k < n) (hc : cs[k]? = some v) (w : World) :
    (Instr.index t (.agg cs) (.int .i64 k)).run P w = .ok v w := by
  have hagg : (isAgg e).run P w = .ok false w := by
    unfold isAgg
    rw [Sem.run_bind, run_underlying he w]
    cases d <;> simp_all
  have hk' : 0 ≤ (k : Int) ∧ (k : Int) < (n : Int) := ⟨by omega, by omega⟩
  cases hq : P.info? e with
  | none => simp [hq] at hs
  | some i =>
    have hi : i.size = 1 := by simpa [hq] using hs
    simp [Instr.index, run_underlying h, asIntOf, hk, part, hagg, sizeOf, typeInfo, hq, hi, hc]
/-- a whole array read out of a block. -/
theorem run_load_part (w : World) (g o : Nat) (ty : TypeId) (cs : List Value) (d : TypeDesc) (hc : ∀ j v, cs[j]? = some v → w.cell? ⟨g, o + j, none⟩ = some v)
    (hu : P.underlying ty = some d) (hd : (match d with | .struct _ | .array _ _ => true | _ => false) = true) (hi : (P.info? ty).map (·.size) = some cs.length) :
    (loadVar ty ⟨g, o, none⟩).run P w = .ok (.agg cs.toArray) w := by
  have hl : (loadCells ⟨g, o, none⟩ cs.length).run P w = .ok cs.toArray w :=
    run_loadCells_list (P := P) w ⟨g, o, none⟩ cs (fun j v hv => by
      have hadd : (⟨g, o, none⟩ : Addr).add j = ⟨g, o + j, none⟩ := by unfold Addr.add; split <;> simp_all
      rw [hadd]
      exact hc j v hv)
  cases hq : P.info? ty with
  | none => simp [hq] at hi
  | some i =>
    have hs : i.size = cs.length := by simpa [hq] using hi
    have hagg : (isAgg ty).run P w = .ok true w := by
      unfold isAgg
      rw [Sem.run_bind, run_underlying hu w]
      cases d <;> simp_all
    simp [loadVar, Sem.run_bind, hagg, sizeOf, typeInfo, hq, hs, hl]
theorem wpList_load_at {ops : Array Oper} {rest : List Oper} {o : Oper} {a : Act} {w : World} {Q : Exit → Act → World → Prop} (hgd : o.guard = none) (ty : TypeId) (x : Operand) (ho : o.op = .load ty x) (ad : Addr) (hx : a.eval x = .pointer (some ad)) (v : Value)
    (hr : (loadVar ty ad).run P w = .ok v w) (h : wpList P ops Q rest (a.put o.dst v) w) : wpList P ops Q (o :: rest) a w := by
  refine wpList_plain hgd fun K hK => ?_
  unfold Oper.wp execOp
  simp only [ho, hx, Instr.loadAt, Instr.sureAddr, Sem.run_bind, Sem.run_pure, Result.andThen_ok, hr]
  exact hK _ _ h
theorem wpQuiet_load {ops : Array Oper} {C : World → Prop} {Q : Act → Prop} {a : Act} {o : Oper} {rest : List Oper} (hg : o.guard = none) (ty : TypeId) (x : Operand) (ho : o.op = .load ty x) (ad : Addr) (hx : a.eval x = .pointer (some ad)) (v : Value)
    (hr : ∀ w, C w → (loadVar ty ad).run P w = .ok v w) (h : wpQuiet P ops C Q rest (a.put o.dst v)) : wpQuiet P ops C Q (o :: rest) a := by
  refine wpQuiet_step fun K hK => ?_
  have hw : Region.wanted o (yielded ops a.tmps) = true := by simp [Region.wanted, hg]
  rw [if_pos hw]
  refine ⟨v, fun w hw => ?_, hK _ h⟩
  unfold Oper.quietAt execOp
  simp only [ho, hx, Instr.loadAt, Instr.sureAddr, Sem.run_bind, Sem.run_pure, Result.andThen_ok, hr w hw]
  exact ⟨rfl, rfl⟩
/-- .. written into one, at its head. -/
theorem run_store_head (w : World) (g : Nat) (t : TypeId) (cur : List Value) (cs : List Value) (hg : w.heap[g]? = some (.cells cur.toArray t (0, 0))) (ho : cs.length ≤ cur.length) (h1 : ∀ v ∈ cs, v.oneCell' = true) :
    (storeCells ⟨g, 0, none⟩ cs).run P w = .ok () (w.setRow g (cs ++ cur.drop cs.length).toArray) := by
  have := run_storeCells_at P g 0 t cs 0 cur.toArray w hg (by simpa using ho) h1
  simpa using this
end

theorem heap_alloc3 (w : World) (A B C : Obj) : (((w.alloc A).alloc B).alloc C).heap[w.heap.size + 1 + 1]? = some C := by
  have := heap_alloc_new ((w.alloc A).alloc B) C
  simpa using this
/-- cells one behind the other in block g, and not frozen. -/
theorem arr_cell {w : World} {g : Nat} {cs : Array Value} {t : TypeId} (h : w.heap[g]? = some (.cells cs t (0, 0))) {i : Nat} {v : Value} (hv : cs[i]? = some v) : w.cell? ⟨g, i, none⟩ = some v := by
  rw [cell_of_row w g i cs t (0, 0) h]; exact hv
theorem map_at {α : Type} {f : α → Value} {l : List α} {i : Nat} (h : i < l.length) : (l.map f).toArray[i]? = some (f l[i]) := by simp [h]

/-- words, and zeros behind them: n in all. -/
def cellsW (n : Nat) (ws : List Nat) : Array Value := (ws.map wV ++ List.replicate (n - ws.length) (Value.int .u32 0)).toArray
theorem cellsW_size {n : Nat} {ws : List Nat} (h : ws.length ≤ n) : (cellsW n ws).size = n := by simp [cellsW]; omega
theorem cellsW_at {n : Nat} {ws : List Nat} {i : Nat} (h : i < ws.length) : (cellsW n ws)[i]? = some (wV ws[i]) := by
  simp [cellsW, List.getElem?_append_left, h]
theorem cellsW_zero {n : Nat} {ws : List Nat} {i : Nat} (h : ws.length ≤ i) (hn : i < n) : (cellsW n ws)[i]? = some (.int .u32 0) := by
  simp only [cellsW, List.getElem?_toArray]
  rw [List.getElem?_append_right (by simpa using h), List.getElem?_replicate, if_pos (by simp; omega)]
theorem cellsW_set {n : Nat} {ws : List Nat} (x : Nat) (h : ws.length < n) : (cellsW n ws).setIfInBounds ws.length (wV x) = cellsW n (ws ++ [x]) := by
  apply Array.ext'
  simp only [cellsW, Array.toList_setIfInBounds]
  rw [List.set_append_right _ _ (by simp), List.length_map, Nat.sub_self]
  obtain ⟨m, hm⟩ : ∃ m, n - ws.length = m + 1 := ⟨n - ws.length - 1, by omega⟩
  rw [hm, List.replicate_succ, List.set_cons_zero, List.map_append, List.length_append, List.length_singleton, show n - (ws.length + 1) = m by omega, List.append_assoc]
  rfl
theorem cellsW_all {n : Nat} {ws : List Nat} (h : ws.length = n) : cellsW n ws = (ws.map wV).toArray := by
  simp [cellsW, h]
theorem one_map {α : Type} {f : α → Value} (hf : ∀ x, (f x).oneCell' = true) (l : List α) : (l.map f).toArray.all (·.oneCell') = true := by
  simp [hf]
/-- a word of a row of words turns. -/
theorem arr_set {w w0 : World} {B g i x : Nat} {ws : List Nat} {t : TypeId} (h : w.heap[g]? = some (.cells (ws.map wV).toArray t (0, 0))) (hb : Below B w0 w) (hB : B ≤ g) :
    (w.setCell ⟨g, i, none⟩ (wV x)).heap[g]? = some (.cells ((ws.set i x).map wV).toArray t (0, 0)) ∧ Below B w0 (w.setCell ⟨g, i, none⟩ (wV x)) := by
  refine ⟨?_, hb.setCell (p := ⟨g, i, none⟩) hB _⟩
  rw [heap_setCell_same w g i _ t _ h, List.map_set]
  simp
theorem arr_frozen {w : World} {g i : Nat} {cs : Array Value} {t : TypeId} (h : w.heap[g]? = some (.cells cs t (0, 0))) : w.frozen? ⟨g, i, none⟩ = false := frozen_of_row w g i cs t h
theorem or_val {x c k : Nat} (hx : x < 4294967296) (hc : c < 256) : bits BinOp.or IntKind.u32 (x : Int) ((c : Int) % 4294967296 * 2 ^ (24 - 8 * (k % 4)) % 4294967296) = ((x ||| c * 2 ^ (24 - 8 * (k % 4)) : Nat) : Int) := by
  have h2 : c * 2 ^ (24 - 8 * (k % 4)) < 4294967296 := by
    have : 2 ^ (24 - 8 * (k % 4)) ≤ 2 ^ 24 := Nat.pow_le_pow_right (by decide) (by omega)
    calc c * 2 ^ (24 - 8 * (k % 4)) ≤ 255 * 2 ^ 24 := Nat.mul_le_mul (by omega) this
      _ < 4294967296 := by decide
  have e : (c : Int) % 4294967296 * 2 ^ (24 - 8 * (k % 4)) % 4294967296 = ((c * 2 ^ (24 - 8 * (k % 4)) : Nat) : Int) := by
    rw [show (c : Int) % 4294967296 = (c : Int) by omega, cast_lo, Nat.mod_eq_of_lt h2]
  rw [e, u32_or_nat _ _ hx h2]
/-- .. the first of the zeros. -/
theorem arr_push {w w0 : World} {B g x n : Nat} {ws : List Nat} {t : TypeId} (h : w.heap[g]? = some (.cells (cellsW n ws) t (0, 0))) (hn : ws.length < n) (hb : Below B w0 w) (hB : B ≤ g) :
    (w.setCell ⟨g, ws.length, none⟩ (wV x)).heap[g]? = some (.cells (cellsW n (ws ++ [x])) t (0, 0)) ∧ Below B w0 (w.setCell ⟨g, ws.length, none⟩ (wV x)) := by
  refine ⟨?_, hb.setCell (p := ⟨g, ws.length, none⟩) hB _⟩
  rw [heap_setCell_same w g _ _ t _ h, cellsW_set x hn]
theorem arr_push' {w : World} {g x n : Nat} {ws : List Nat} {t : TypeId} (h : w.heap[g]? = some (.cells (cellsW n ws) t (0, 0))) (hn : ws.length < n) :
    (w.setCell ⟨g, ws.length, none⟩ (wV x)).heap[g]? = some (.cells (cellsW n (ws ++ [x])) t (0, 0)) := by
  rw [heap_setCell_same w g _ _ t _ h, cellsW_set x hn]
theorem laid_row (w : World) (A cs : Array Value) (t : TypeId) : ((w.alloc (.cells A t)).setRow w.heap.size cs).heap[w.heap.size]? = some (.cells cs t (0, 0)) ∧ Below w.heap.size w ((w.alloc (.cells A t)).setRow w.heap.size cs) :=
  ⟨setRow_heap _ _ _ _ _ _ (heap_alloc_new _ _), below_setRow ((Below.refl _ _).alloc (Nat.le_refl _) _) (Nat.le_refl _) _⟩
/-- eight words in memory. -/
theorem box8 {w : World} {g : Nat} {t : TypeId} {v : H8} (h : w.heap[g]? = some (.cells (v.words.map wV).toArray t (0, 0))) :
    (w.cell? ⟨g, 0, none⟩ = some (.int .u32 (v.a : Nat)) ∧ w.cell? ⟨g, 1, none⟩ = some (.int .u32 (v.b : Nat)) ∧ w.cell? ⟨g, 2, none⟩ = some (.int .u32 (v.c : Nat)) ∧ w.cell? ⟨g, 3, none⟩ = some (.int .u32 (v.d : Nat)) ∧ w.cell? ⟨g, 4, none⟩ = some (.int .u32 (v.e : Nat)) ∧ w.cell? ⟨g, 5, none⟩ = some (.int .u32 (v.f : Nat)) ∧ w.cell? ⟨g, 6, none⟩ = some (.int .u32 (v.g : Nat)) ∧ w.cell? ⟨g, 7, none⟩ = some (.int .u32 (v.h : Nat))) :=
  ⟨arr_cell h rfl, arr_cell h rfl, arr_cell h rfl, arr_cell h rfl, arr_cell h rfl, arr_cell h rfl, arr_cell h rfl, arr_cell h rfl⟩
theorem set_at {w : World} {g : Nat} {t : TypeId} {l : List Value} (h : w.heap[g]? = some (.cells l.toArray t (0, 0))) (i : Nat) (x : Value) : (w.setCell ⟨g, i, none⟩ x).heap[g]? = some (.cells (l.set i x).toArray t (0, 0)) := by
  rw [heap_setCell_same w g i _ t x h]
  simp
/-- all eight turned, the last one first. -/
theorem set8 {w : World} {g : Nat} {t : TypeId} {v : H8} (h : w.heap[g]? = some (.cells (v.words.map wV).toArray t (0, 0))) (x0 x1 x2 x3 x4 x5 x6 x7 : Value) :
    ((((((((w.setCell ⟨g, 7, none⟩ x7).setCell ⟨g, 6, none⟩ x6).setCell ⟨g, 5, none⟩ x5).setCell ⟨g, 4, none⟩ x4).setCell ⟨g, 3, none⟩ x3).setCell ⟨g, 2, none⟩ x2).setCell ⟨g, 1, none⟩ x1).setCell ⟨g, 0, none⟩ x0).heap[g]? = some (.cells [x0, x1, x2, x3, x4, x5, x6, x7].toArray t (0, 0)) := by
  have h' := set_at (set_at (set_at (set_at (set_at (set_at (set_at (set_at h 7 x7) 6 x6) 5 x5) 4 x4) 3 x3) 2 x2) 1 x1) 0 x0
  simp only [H8.words, List.map_cons, List.map_nil, List.set_cons_succ, List.set_cons_zero] at h'
  exact h'
theorem gro_set8 {w0 w : World} {g : Nat} (h : Gro g w0 w) (x0 x1 x2 x3 x4 x5 x6 x7 : Value) :
    Gro g w0 ((((((((w.setCell ⟨g, 7, none⟩ x7).setCell ⟨g, 6, none⟩ x6).setCell ⟨g, 5, none⟩ x5).setCell ⟨g, 4, none⟩ x4).setCell ⟨g, 3, none⟩ x3).setCell ⟨g, 2, none⟩ x2).setCell ⟨g, 1, none⟩ x1).setCell ⟨g, 0, none⟩ x0) :=
  gro_set (gro_set (gro_set (gro_set (gro_set (gro_set (gro_set (gro_set h 7 _) 6 _) 5 _) 4 _) 3 _) 2 _) 1 _) 0 _
/-- bytes, and zeros behind them: n in all. -/
def cellsBy (n : Nat) (bs : List UInt8) : Array Value := (bs.map bV ++ List.replicate (n - bs.length) (Value.int .u8 0)).toArray
theorem cellsBy_zero {n : Nat} {ws : List UInt8} {i : Nat} (h : ws.length ≤ i) (hn : i < n) : (cellsBy n ws)[i]? = some (.int .u8 0) := by
  simp only [cellsBy, List.getElem?_toArray]
  rw [List.getElem?_append_right (by simpa using h), List.getElem?_replicate, if_pos (by simp; omega)]
theorem cellsBy_set {n : Nat} {ws : List UInt8} (x : UInt8) (h : ws.length < n) : (cellsBy n ws).setIfInBounds ws.length (bV x) = cellsBy n (ws ++ [x]) := by
  apply Array.ext'
  simp only [cellsBy, Array.toList_setIfInBounds]
  rw [List.set_append_right _ _ (by simp), List.length_map, Nat.sub_self]
  obtain ⟨m, hm⟩ : ∃ m, n - ws.length = m + 1 := ⟨n - ws.length - 1, by omega⟩
  rw [hm, List.replicate_succ, List.set_cons_zero, List.map_append, List.length_append, List.length_singleton, show n - (ws.length + 1) = m by omega, List.append_assoc]
  rfl
theorem cellsBy_all {n : Nat} {ws : List UInt8} (h : ws.length = n) : cellsBy n ws = (ws.map bV).toArray := by
  simp [cellsBy, h]
theorem arr_pushB {w : World} {g n : Nat} {x : UInt8} {ws : List UInt8} {t : TypeId} (h : w.heap[g]? = some (.cells (cellsBy n ws) t (0, 0))) (hn : ws.length < n) :
    (w.setCell ⟨g, ws.length, none⟩ (bV x)).heap[g]? = some (.cells (cellsBy n (ws ++ [x])) t (0, 0)) := by
  rw [heap_setCell_same w g _ _ t _ h, cellsBy_set x hn]
end Go.Proofs.YtbmdoekfbkpaeaaGreatDoor

namespace Go.Proofs.YtbmdoekfbkpaeaaGreatDoor
open Go.RowKit

set_option maxHeartbeats 2000000 in
set_option maxRecDepth 100000 in
theorem rot_walk (x n : Nat) (w : World) (hx : x < 4294967296) (h0 : 0 < n) (hn : n < 32) :
    Calls Tryz.prog 60 #[.int .u32 x, .int .u64 n] w fun e w' => e = .returned (.int .u32 (rotN n x : Nat)) ∧ w' = w := by
  go_enter Tryz.func60, Tryz.ntmps60
  go_wp2
  go_ret
  exact ⟨congrArg (fun z => Ending.returned (Value.int IntKind.u32 z)) (bits_rot (by omega) hx), rfl⟩

set_option maxHeartbeats 4000000 in
set_option maxRecDepth 100000 in
theorem rconst_walk (w : World) :
    Calls Tryz.prog 59 #[] w fun e w' => e = .returned (.agg (kSha.map wV).toArray) ∧ Below w.heap.size w w' := by
  go_enter Tryz.func59, Tryz.ntmps59
  go_upto_region 1 with fail
  generalize hw1 : w.alloc _ = w1
  have hz : w1.heap[w.heap.size]? = some (.cells (Array.replicate 64 (.int .u32 0)) 104 (0, 0)) := by
    rw [← hw1]
    exact heap_alloc_new _ _
  have hb : Below w.heap.size w w1 := by
    rw [← hw1]
    exact (Below.refl _ _).alloc (Nat.le_refl _) _
  clear hw1
  apply wp_region_lit
  refine wpList_build rfl 104 _ rfl (by as_aux_lemma => kernel_rfl) ?_
  refine wpList_store_row rfl 104 _ _ rfl w.heap.size (kSha.map wV).toArray rfl (by as_aux_lemma => kernel_rfl) 104 _ hz (by as_aux_lemma => kernel_rfl) rfl (by as_aux_lemma => kernel_rfl) ?_
  apply wpList_nil
  generalize hw2 : w1.setRow _ _ = w2
  have hz2 : w2.heap[w.heap.size]? = some (.cells (kSha.map wV).toArray 104 (0, 0)) := by
    rw [← hw2]
    exact setRow_heap w1 _ _ _ _ _ hz
  have hb2 : Below w.heap.size w w2 := by
    rw [← hw2]
    exact below_setRow hb (Nat.le_refl _) _
  clear hw2
  rename_i hK
  refine hK _ _ ?_
  apply wp_ret
  exact bodyPost_ret (v := .agg (kSha.map wV).toArray) (results_cell_row rfl _ _ w.heap.size 104 _ _ _ (by as_aux_lemma => kernel_rfl) hz2 Tryz.underlying104 rfl (by as_aux_lemma => kernel_rfl)) rfl ⟨rfl, hb2⟩

set_option maxHeartbeats 4000000 in
set_option maxRecDepth 100000 in
theorem rfirst_walk (w : World) :
    Calls Tryz.prog 32 #[] w fun e w' => e = .returned (.agg (h0Sha.words.map wV).toArray) ∧ Below w.heap.size w w' := by
  go_enter Tryz.func32, Tryz.ntmps32
  go_upto_region 1 with fail
  generalize hw1 : w.alloc _ = w1
  have hz : w1.heap[w.heap.size]? = some (.cells (Array.replicate 8 (.int .u32 0)) 78 (0, 0)) := by
    rw [← hw1]
    exact heap_alloc_new _ _
  have hb : Below w.heap.size w w1 := by
    rw [← hw1]
    exact (Below.refl _ _).alloc (Nat.le_refl _) _
  clear hw1
  apply wp_region_lit
  refine wpList_build rfl 78 _ rfl (by as_aux_lemma => kernel_rfl) ?_
  refine wpList_store_row rfl 78 _ _ rfl w.heap.size (h0Sha.words.map wV).toArray rfl (by as_aux_lemma => kernel_rfl) 78 _ hz (by as_aux_lemma => kernel_rfl) rfl (by as_aux_lemma => kernel_rfl) ?_
  apply wpList_nil
  generalize hw2 : w1.setRow _ _ = w2
  have hz2 : w2.heap[w.heap.size]? = some (.cells (h0Sha.words.map wV).toArray 78 (0, 0)) := by
    rw [← hw2]
    exact setRow_heap w1 _ _ _ _ _ hz
  have hb2 : Below w.heap.size w w2 := by
    rw [← hw2]
    exact below_setRow hb (Nat.le_refl _) _
  clear hw2
  rename_i hK
  refine hK _ _ ?_
  apply wp_ret
  exact bodyPost_ret (v := .agg (h0Sha.words.map wV).toArray) (results_cell_row rfl _ _ w.heap.size 78 _ _ _ (by as_aux_lemma => kernel_rfl) hz2 Tryz.underlying78 rfl (by as_aux_lemma => kernel_rfl)) rfl ⟨rfl, hb2⟩
end Go.Proofs.YtbmdoekfbkpaeaaGreatDoor

namespace Go.Proofs.YtbmdoekfbkpaeaaGreatDoor
open Go Go.RowKit

section
variable {P : Program} {ops : Array Oper} {md : Region.Mode} {C : World → Prop}

/-- Whatever order is picked, the first m come ahead of all others. -/
def ahead (md : Region.Mode) (ops : Array Oper) (m : Nat) : Nat → Array Bool → Bool
  | 0, listed => (List.range m).all fun i => listed.getD i true
  | k + 1, listed => !(Region.ready md ops listed).isEmpty && (Region.ready md ops listed).all fun i => decide (i < m) && ahead md ops m k (listed.setIfInBounds i true)
def lexPre (md : Region.Mode) (ops : Array Oper) : Nat → Nat → Array Bool → Bool
  | 0, _, _ => true
  | n + 1, k, listed => (Region.ready md ops listed).contains k && Region.free md ops listed k && lexPre md ops n (k + 1) (listed.setIfInBounds k true)
def listedTo : Nat → Nat → Array Bool → Array Bool
  | 0, _, listed => listed
  | n + 1, k, listed => listedTo n (k + 1) (listed.setIfInBounds k true)

/-- Whatever order is picked of the first ones; then T. -/
def wpPre (P : Program) (md : Region.Mode) (ops : Array Oper) (C : World → Prop) (T : Array Bool → Act → Prop) : Nat → Array Bool → Act → Prop
  | 0, listed, a => T listed a
  | k + 1, listed, a => Region.ready md ops listed ≠ [] ∧ ∀ i ∈ Region.ready md ops listed, qOp P ops C i (wpPre P md ops C T k (listed.setIfInBounds i true)) a

theorem wpAny_of_pre {Q' : Exit → Act → World → Prop} {f : Nat} : ∀ (k : Nat) (listed : Array Bool) (a : Act) (w : World), C w →
    wpPre P md ops C (fun listed a => ∀ w, C w → wpAny P md ops Q' f listed a w) k listed a → wpAny P md ops Q' (k + f) listed a w
  | 0, _, _, w, hw, h => by rw [Nat.zero_add]; exact h w hw
  | k + 1, _, _, w, hw, h => by
    rw [Nat.succ_add]
    exact ⟨fun h0 => absurd h0 h.1, fun i hi => wpOp_of_qOp hw (fun a' w' hw' => wpAny_of_pre k _ a' w' hw') (h.2 i hi)⟩

theorem ahead_at {m k : Nat} {listed : Array Bool} (h : ahead md ops m (k + 1) listed = true) {i : Nat} (hi : i ∈ Region.ready md ops listed) : i < m ∧ ahead md ops m k (listed.setIfInBounds i true) = true := by
  simp only [ahead, Bool.and_eq_true, List.all_eq_true, decide_eq_true_eq] at h
  exact h.2 i hi

theorem wpPre_first {T : Array Bool → Act → Prop} {m i : Nat} {oi : Oper} {v : Value} (hi : ops[i]? = some oi) (hsel : ∀ (j : Nat) (o : Oper) cs b, ops[j]? = some o → o.op ≠ .select cs b) :
    ∀ (k : Nat) (listed : Array Bool) (a : Act), ahead md ops m (k + 1) listed = true →
      (∀ j oj, ops[j]? = some oj → j ≠ i → listed.getD j true = false → (∀ e ∈ oj.after, Region.binds md e = true → e.on ≠ i) → oi.apart ops oj = true) →
      i ∈ Region.ready md ops listed → YieldsIn P ops C oi v a →
      wpPre P md ops C T k (listed.setIfInBounds i true) (a.put oi.dst v) → wpPre P md ops C T (k + 1) listed a := by
  intro k
  induction k with
  | zero =>
    intro listed a hA _ hr hy H
    refine ⟨List.ne_nil_of_mem hr, fun j hj => ?_⟩
    by_cases hji : j = i
    · subst hji; exact hy.qOp hi H
    · exfalso
      have h1 := (ahead_at hA hr).2
      have h2 := (ahead_at hA hj).1
      simp only [ahead, List.all_eq_true, List.mem_range] at h1
      have h3 := h1 j h2
      rw [getD_set_ne true (Ne.symm hji), (mem_ready.1 hj).1] at h3
      cases h3
  | succ k ih =>
    intro listed a hA hfree hr hy H
    refine ⟨List.ne_nil_of_mem hr, fun j hj => ?_⟩
    by_cases hji : j = i
    · subst hji; exact hy.qOp hi H
    · have h1 := H.2 j (ready_mono hj hji)
      obtain ⟨hjun, oj, hoj, hall⟩ := mem_ready.1 hj
      have hnot : ∀ e ∈ oj.after, Region.binds md e = true → e.on ≠ i := fun e he hb heq => by
        have h1 := hall e he hb
        have h0 := (mem_ready.1 hr).1
        rw [heq] at h1
        rcases Nat.lt_or_ge i listed.size with h' | h'
        · simp [h'] at h0 h1; rw [h0] at h1; cases h1
        · simp [Array.getElem?_eq_none h'] at h1
      have h2 := qOp_put hoj (hfree j oj hoj hji hjun hnot) (fun cs b => hsel i oi cs b hi) (fun cs b => hsel j oj cs b hoj) hy h1
      have hfree' : ∀ k ok, ops[k]? = some ok → k ≠ i → (listed.setIfInBounds j true).getD k true = false →
          (∀ e ∈ ok.after, Region.binds md e = true → e.on ≠ i) → oi.apart ops ok = true := fun k ok hk hki hun hno => by
        refine hfree k ok hk hki ?_ hno
        by_cases hjk : j = k
        · subst hjk; exact hjun
        · rw [getD_set_ne true hjk] at hun; exact hun
      refine qOp_mono (fun a' h3 => ih (listed.setIfInBounds j true) a' (ahead_at hA hj).2 hfree' (ready_mono hr (Ne.symm hji)) h3.1 ?_) h2
      rw [Array.setIfInBounds_comm _ _ hji]
      exact h3.2

theorem wpPre_lex {Q : Act → Prop} {m : Nat} {L : Array Bool} (hs : Region.noSelect ops = true) : ∀ (l : List Oper) (k : Nat) (listed : Array Bool) (a : Act), (∀ j, j < l.length → l[j]? = ops[k + j]?) →
    lexPre md ops l.length k listed = true → ahead md ops m l.length listed = true → listedTo l.length k listed = L → wpQuiet P ops C Q l a → wpPre P md ops C (fun listed a => listed = L ∧ Q a) l.length listed a
  | [], _, _, _, _, _, _, hL, h => ⟨hL, h⟩
  | o :: l, k, listed, a, hl, hB, hA, hL, h => by
    have h0 : ops[k]? = some o := by simpa using (hl 0 (by simp)).symm
    simp only [List.length_cons, lexPre, Bool.and_eq_true] at hB
    obtain ⟨⟨hr, hf⟩, hB'⟩ := hB
    have hst : qOp P ops C k (wpQuiet P ops C Q l) a := by unfold qOp; simp only [h0]; exact h
    obtain ⟨v, hy, hK⟩ := yieldsIn_of_qOp h0 hst
    have hr' : k ∈ Region.ready md ops listed := by simpa using hr
    exact wpPre_first h0 (Region.noSelect_spec hs) l.length listed a hA (Region.free_spec h0 hf) hr' hy
      (wpPre_lex hs l (k + 1) _ _ (fun j hj => by have := hl (j + 1) (by simpa using hj); simpa [Nat.add_assoc, Nat.add_comm 1 j] using this) hB' (ahead_at hA hr').2 hL hK)

theorem wpPre_mono {T T' : Array Bool → Act → Prop} (h : ∀ l a, T l a → T' l a) : ∀ (k : Nat) (listed : Array Bool) (a : Act), wpPre P md ops C T k listed a → wpPre P md ops C T' k listed a
  | 0, _, _, hh => h _ _ hh
  | k + 1, _, _, hh => ⟨hh.1, fun i hi => qOp_mono (fun a' => wpPre_mono h k _ a') (hh.2 i hi)⟩

/-- The first m operations, walked once in a class of worlds; then the others, that wait for them. -/
theorem wp_region_tail {id : Nat} {Q : Exit → Act → World → Prop} {a : Act} {w : World} {l : List Oper} (m f : Nat) (hl : l.length = m + f) (hm : P.follows .mixedOrders = true) (hs : Region.noSelect l.toArray = true)
    (hB : lexPre .any l.toArray m 0 (Array.replicate (m + f) false) = true) (hA : ahead .any l.toArray m m (Array.replicate (m + f) false) = true) (hC : C { w with drawn := w.drawn + 1 })
    (h : wpQuiet P l.toArray C (fun a' => ∀ w', C w' → wpAny P .any l.toArray Q f (listedTo m 0 (Array.replicate (m + f) false)) a' w') (l.take m) a) : (Code.region id l.toArray true).wp P Q a w := by
  refine wp_region_any hm ?_
  rw [List.size_toArray, hl]
  have hlt : (l.take m).length = m := by rw [List.length_take]; omega
  refine wpAny_of_pre m _ a _ hC ?_
  have := wpPre_lex (C := C) (md := .any) (m := m) (L := listedTo m 0 (Array.replicate (m + f) false)) hs (l.take m) 0 (Array.replicate (m + f) false) a (fun j hj => by
    rw [hlt] at hj
    rw [List.getElem?_take, if_pos hj]; simp) (by rw [hlt]; exact hB) (by rw [hlt]; exact hA) (by rw [hlt]) h
  rw [hlt] at this
  exact wpPre_mono (fun l a ⟨h1, h2⟩ => by subst h1; exact h2) _ _ _ this
theorem wp_tail_later {id : Nat} {Q : Exit → Act → World → Prop} {a : Act} {w : World} {l : List Oper} (m f : Nat) (hl : l.length = m + f) (hm : P.follows .mixedOrders = true) (hs : Region.noSelect l.toArray = true)
    (hB : lexPre .any l.toArray m 0 (Array.replicate (m + f) false) = true) (hA : ahead .any l.toArray m m (Array.replicate (m + f) false) = true)
    (h : wpQuiet P l.toArray (fun w' => ∃ p : LaterOf w, w' = p.world) (fun a' => ∀ w', (∃ p : LaterOf w, w' = p.world) → wpAny P .any l.toArray Q f (listedTo m 0 (Array.replicate (m + f) false)) a' w') (l.take m) a) : (Code.region id l.toArray true).wp P Q a w :=
  wp_region_tail (C := fun w' => ∃ p : LaterOf w, w' = p.world) m f hl hm hs hB hA ⟨⟨{ w with drawn := w.drawn + 1 }, ⟨rfl, rfl, rfl, Nat.le_refl _, fun _ _ => rfl⟩⟩, rfl⟩ h
end
end Go.Proofs.YtbmdoekfbkpaeaaGreatDoor
