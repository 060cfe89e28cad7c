/- Boxes of four cells; rows that stay. -/
import Derived.Test.YtffdcnhpjgpcdaaGreatDoorJRow
namespace Go.Proofs.YtffdcnhpjgpcdaaGreatDoor
open Go.RowKit

theorem new_cells4 (w : World) (v u x z : Value) (e : Nat) : ∀ (j : Nat) y, [v, u, x, z][j]? = some y → (w.alloc (.cells #[v, u, x, z] e)).cell? ((⟨w.heap.size, 0, none⟩ : Addr).add j) = some y := by
  intro j y hj
  match j, hj with
  | 0, hj => simp at hj; subst hj; simp [Addr.add]
  | 1, hj => simp at hj; subst hj; simp [Addr.add]
  | 2, hj => simp at hj; subst hj; simp [Addr.add]
  | 3, hj => simp at hj; subst hj; simp [Addr.add]
theorem below_setT {B : Nat} {w w' : World} (h : Below B w w') {g : Nat} (hg : B ≤ g) (o : Nat) (u : Value) : Below B w (w'.setCell ⟨g, o, none⟩ u) := h.setCell (p := ⟨g, o, none⟩) hg u
theorem own_on {w w' : World} {base e k n : Nat} {v : Value} {xs : List Value} (h : w.ownsRow base e k v n xs) (hb : Below w.heap.size w w') : w'.ownsRow base e k v n xs :=
  h.kept (⟨hb.os, hb.tape, hb.output, hb.size, fun k hk _ => hb.block k hk⟩ : w.grownBy w' none) (by
    rcases h.2 with ⟨h, _⟩ | ⟨g, cap, cur, h, _⟩
    · rw [h]; exact .inl rfl
    · rw [h]; exact .inr (by simp [Value.ownBlock]))
theorem box4 {w : World} {g : Nat} {v u x z : Value} {t : TypeId} (h : w.heap[g]? = some (.cells #[v, u, x, z] t (0, 0))) :
    (w.cell? ⟨g, 0, none⟩ = some v ∧ w.cell? ⟨g, 1, none⟩ = some u ∧ w.cell? ⟨g, 2, none⟩ = some x ∧ w.cell? ⟨g, 3, none⟩ = some z) ∧
    (w.frozen? ⟨g, 0, none⟩ = false ∧ w.frozen? ⟨g, 1, none⟩ = false ∧ w.frozen? ⟨g, 2, none⟩ = false ∧ w.frozen? ⟨g, 3, none⟩ = false) ∧
    ((w.cell? ⟨g, 0, none⟩).isSome = true ∧ (w.cell? ⟨g, 1, none⟩).isSome = true ∧ (w.cell? ⟨g, 2, none⟩).isSome = true ∧ (w.cell? ⟨g, 3, none⟩).isSome = true) := by
  have h0 := heap_cell h (j := 0) (v := v) rfl
  have h1 := heap_cell h (j := 1) (v := u) rfl
  have h2 := heap_cell h (j := 2) (v := x) rfl
  have h3 := heap_cell h (j := 3) (v := z) rfl
  exact ⟨⟨h0, h1, h2, h3⟩, ⟨heap_free h 0, heap_free h 1, heap_free h 2, heap_free h 3⟩, ⟨is_some h0, is_some h1, is_some h2, is_some h3⟩⟩
end Go.Proofs.YtffdcnhpjgpcdaaGreatDoor
