/- A map from texts to bools that the call makes, in plain words. -/
import Derived.Test.YtnegnjagiejncaaDoorBase
import Derived.Maps.OwnOps
import Derived.Maps.Views
import Derived.StringKeys
namespace Go.Proofs.YtnegnjagiejncaaDoor
open Go.RowKit
open Go.Maps (Keyed)
open Go.WideMaps (keyOf_string_mk)

theorem keyStr : Keyed Tryd.prog 9 := Maps.string_keyed Tryd.underlying9
theorem zeroBool (w : World) : (zeroValue 4).run Tryd.prog w = .ok (.bool false) w := by kernel_rfl

/-- Block b is a map of at most n entries; at a key lies f of it. -/
def BMap (w : World) (b n : Nat) (f : List UInt8 → Bool) : Prop :=
  ∃ D : DataW Unit, w.ownsMap Tryd.prog 9 (plainElem Tryd.prog 4) b n D ∧ Maps.IsMap D ∧ ∀ key, D.atKey (.string key) (.lit (.bool false)) = .lit (.bool (f key))

theorem BMap.made (w : World) : BMap (w.alloc (.map #[] 0)) w.heap.size 0 (fun _ => false) :=
  ⟨_, World.ownsMap_made _ _ _ _, Maps.isMap_empty, fun _ => rfl⟩
theorem BMap.kept {w w' : World} {b n : Nat} {f : List UInt8 → Bool} (h : BMap w b n f) (hb : Below w.heap.size w w') : BMap w' b n f := by
  obtain ⟨D, h1, h2, h3⟩ := h
  exact ⟨D, h1.kept (⟨hb.os, hb.tape, hb.output, hb.size, fun k hk _ => hb.block k hk⟩ : w.grownBy w' none) (by simp), h2, h3⟩
theorem BMap.lt {w : World} {b n : Nat} {f : List UInt8 → Bool} (h : BMap w b n f) : b < w.heap.size := by
  obtain ⟨D, h1, _⟩ := h; exact h1.lt
set_option maxRecDepth 100000 in
theorem plainElem_bool_inv {v : Value} {x : Bool} {ps : List MemPlace} (h : plainElem (H := Unit) Tryd.prog 4 v = some (.lit (.bool x), ps)) : v = .bool x := by
  unfold plainElem at h
  rw [Tryd.underlying4] at h
  cases v <;> simp at h
  rw [h.1]
theorem BMap.look {w : World} {b n : Nat} {f : List UInt8 → Bool} (h : BMap w b n f) {T : TypeId} (ht : Tryd.prog.underlying T = some (.map 9 4)) {key : List UInt8} (hk : key.length ≤ maxLen) :
    (Instr.lookup T (.map (some b)) (S key) false).run Tryd.prog w = .ok (.bool (f key)) w := by
  obtain ⟨D, h1, _, h3⟩ := h
  obtain ⟨v, ps, hrun, hv⟩ := h1.lookup keyStr ht (zeroBool w) (plainElem_bool Tryd.underlying4 false) (keyOf_string_mk Tryd.underlying9 (s := ⟨key.toArray⟩) hk)
  rw [h3] at hv
  rw [hrun, plainElem_bool_inv hv]
theorem BMap.update {w : World} {b n : Nat} {f : List UInt8 → Bool} (h : BMap w b n f) {T : TypeId} (ht : Tryd.prog.underlying T = some (.map 9 4)) (hn : n < maxLen) {key : List UInt8} (hk : key.length ≤ maxLen) (x : Bool) :
    ∃ w', (Instr.mapUpdate T (.map (some b)) (S key) (.bool x)).run Tryd.prog w = .ok () w' ∧ BMap w' b (n + 1) (fun k => if k = key then x else f k) ∧ w.grownBy w' (some b) := by
  obtain ⟨D, h1, h2, h3⟩ := h
  obtain ⟨w', hrun, hown, hg⟩ := h1.update keyStr ht hn (keyOf_string_mk Tryd.underlying9 (s := ⟨key.toArray⟩) hk) (plainElem_bool Tryd.underlying4 x)
  refine ⟨w', hrun, ⟨_, hown, h2.put _ _, fun k => ?_⟩, hg⟩
  show (D.put (Lit.string key) (DataW.lit (Lit.bool x))).atKey (Lit.string k) (DataW.lit (Lit.bool false)) = DataW.lit (Lit.bool (if k = key then x else f k))
  by_cases hkk : k = key
  · subst hkk
    rw [if_pos rfl]
    exact Maps.atKey_put_same h2 (by trivial) _ _
  · rw [if_neg hkk, Maps.atKey_put_other (by intro e; exact hkk (by simpa using e)), h3]
theorem wpList_bmap_update {P : Program} (hP : P = Tryd.prog) (w : World) {ops : Array Oper} {rest : List Oper} {o : Oper} {a : Act} {Q : Exit → Act → World → Prop}
    (hg : o.guard = none) (m x v : Operand) (t : TypeId) (hop : o.op = Op.mapUpdate t m x v ∨ o.op = Op.insert t m x v) (ht : Tryd.prog.underlying t = some (.map 9 4))
    {b n : Nat} {f : List UInt8 → Bool} (h : BMap w b n f) (hn : n < maxLen) (key : List UInt8) (hk : key.length ≤ maxLen) (y : Bool) (hm : a.eval m = .map (some b)) (hx : a.eval x = S key) (hv : a.eval v = .bool y)
    (hK : ∀ w', BMap w' b (n + 1) (fun k => if k = key then y else f k) → w.grownBy w' (some b) → wpList P ops Q rest (a.put o.dst undef) w') : wpList P ops Q (o :: rest) a w := by
  subst hP
  refine wpList_plain hg fun K' hK' => ?_
  obtain ⟨w', hrun, r1, r2⟩ := h.update ht hn hk y
  unfold Oper.wp
  rcases hop with hop | hop
  · simp [execOp, hop, hm, hx, hv, hrun, Result.andThen]
    exact hK' _ _ (hK w' r1 r2)
  · simp [execOp, hop, hm, hx, hv, hrun, Result.andThen]
    exact hK' _ _ (hK w' r1 r2)
end Go.Proofs.YtnegnjagiejncaaDoor
