/- Nodes, their parts and entries in memory. -/
import Derived.Test.YtffdcnhpjgpcdaaGreatDoorBoxB
import Derived.Test.YtffdcnhpjgpcdaaGreatDoorNodePlain
namespace Go.Proofs.YtffdcnhpjgpcdaaGreatDoor
open Go.RowKit

abbrev prtC (p : Prt) : List Value := [S p.1, .int .i64 p.2]
abbrev PrtV (p : Prt) : Value := .agg #[S p.1, .int .i64 p.2]
abbrev PrtRow := Row prtC
abbrev entC (e : Ent) : List Value := [S e.1, .int .i64 e.2.1, .bool e.2.2.1, S e.2.2.2]
abbrev EntV (e : Ent) : Value := .agg #[S e.1, .int .i64 e.2.1, .bool e.2.2.1, S e.2.2.2]
abbrev EntRow := Row entC
theorem infoPrt : (Tryz.prog.info? 75).map (fun i => (i.zero, i.size, i.bytes)) = some (some (.agg #[.string ⟨#[]⟩, .int .i64 0]), 2, 24) := by kernel_rfl
theorem infoEnt : (Tryz.prog.info? 65).map (fun i => (i.zero, i.size, i.bytes)) = some (some (.agg #[.string ⟨#[]⟩, .int .i64 0, .bool false, .string ⟨#[]⟩]), 4, 48) := by kernel_rfl
theorem prt_cells {w : World} {b o : Nat} {xs : List Prt} (h : ∀ j x, xs[j]? = some x → ∀ i u, (prtC x)[i]? = some u → w.cell? ⟨b, o + j * (prtC x).length + i, none⟩ = some u) {j : Nat} (hj : j < xs.length) :
    w.cell? ⟨b, o + j * 2, none⟩ = some (S xs[j].1) ∧ w.cell? ⟨b, o + j * 2 + 1, none⟩ = some (.int .i64 xs[j].2) :=
  ⟨h j xs[j] (by simp [hj]) 0 _ rfl, h j xs[j] (by simp [hj]) 1 _ rfl⟩
theorem ent_cells {w : World} {b o : Nat} {xs : List Ent} (h : ∀ j x, xs[j]? = some x → ∀ i u, (entC x)[i]? = some u → w.cell? ⟨b, o + j * (entC x).length + i, none⟩ = some u) {j : Nat} (hj : j < xs.length) :
    w.cell? ⟨b, o + j * 4, none⟩ = some (S xs[j].1) ∧ w.cell? ⟨b, o + j * 4 + 1, none⟩ = some (.int .i64 xs[j].2.1) ∧ w.cell? ⟨b, o + j * 4 + 2, none⟩ = some (.bool xs[j].2.2.1) ∧ w.cell? ⟨b, o + j * 4 + 3, none⟩ = some (S xs[j].2.2.2) :=
  ⟨h j xs[j] (by simp [hj]) 0 _ rfl, h j xs[j] (by simp [hj]) 1 _ rfl, h j xs[j] (by simp [hj]) 2 _ rfl, h j xs[j] (by simp [hj]) 3 _ rfl⟩
theorem prt2_one (x : Prt) : ∀ u ∈ prtC x, u.oneCell' = true := by
  intro u hu; simp at hu; rcases hu with rfl | rfl <;> rfl
theorem ent4_one (x : Ent) : ∀ u ∈ entC x, u.oneCell' = true := by
  intro u hu; simp at hu; rcases hu with rfl | rfl | rfl | rfl <;> rfl
/-- A node as a value, of the rows' values. -/
abbrev NodV (n : Nod) (vp ve : Value) : Value := .agg #[.int .i64 n.kind, S n.data, vp, ve]
structure NodRow (w : World) (n : Nod) (vp ve : Value) : Prop where
  parts : PrtRow w vp n.parts
  ents : EntRow w ve n.ents
theorem NodRow.below {w w' : World} {n : Nod} {vp ve : Value} (h : NodRow w n vp ve) (hb : Below w.heap.size w w') : NodRow w' n vp ve := ⟨h.parts.below hb, h.ents.below hb⟩
/-- A box of two cells. -/
theorem box2 {w : World} {g : Nat} {v u : Value} {t : TypeId} (h : w.heap[g]? = some (.cells #[v, u] t (0, 0))) :
    (w.cell? ⟨g, 0, none⟩ = some v ∧ w.cell? ⟨g, 1, none⟩ = some u) ∧ (w.frozen? ⟨g, 0, none⟩ = false ∧ w.frozen? ⟨g, 1, none⟩ = false) ∧ ((w.cell? ⟨g, 0, none⟩).isSome = true ∧ (w.cell? ⟨g, 1, none⟩).isSome = true) := by
  have h0 := heap_cell h (j := 0) (v := v) rfl
  have h1 := heap_cell h (j := 1) (v := u) rfl
  exact ⟨⟨h0, h1⟩, ⟨heap_free h 0, heap_free h 1⟩, ⟨is_some h0, is_some h1⟩⟩
theorem row_slice {α : Type} {f : α → List Value} {w : World} {v : Value} {l : List α} (h : Row f w v l) : ∃ a c, v = .slice a l.length c := by
  obtain ⟨a, c, h1, _⟩ := h
  exact ⟨a, c, h1⟩
end Go.Proofs.YtffdcnhpjgpcdaaGreatDoor
