/- A collection in memory; what it is behind a key's telling. -/
import Derived.Test.YtengciicdnkgaaaGreatDoorOwnP
import Derived.Test.YtengciicdnkgaaaGreatDoorJKey
namespace Go.Proofs.YtengciicdnkgaaaGreatDoor
open Go.RowKit

abbrev GcV (on : Bool) (qv mv : Value) : Value := .agg #[.bool on, qv, mv]
abbrev GCells (on : Bool) (qv mv : Value) : Obj := .cells #[.bool on, qv, mv] 24 (0, 0)
abbrev MGBox (w : World) (b : Nat) (on : Bool) (qv mv : Value) : Prop := w.heap[b]? = some (.cells #[.bool on, qv, mv] 45 (0, 0))
/-- What a collection is behind a key's telling. -/
def noteQ (on : Bool) (q m : List (List UInt8)) (k : List UInt8) : List (List UInt8) := if on = true ∧ k.length = 32 ∧ k ∉ m then q ++ [k] else q
def noteM (on : Bool) (m : List (List UInt8)) (k : List UInt8) : List (List UInt8) := if on = true ∧ k.length = 32 ∧ k ∉ m then addL m k else m
theorem str_flat {w : World} {a : Option Addr} {c : Nat} {l : List (List UInt8)} (hr : StrRow w (.slice a l.length c) l) : l.map S = [] ∨ ∃ b o, a = some ⟨b, o, none⟩ ∧ ∀ j u, (l.map S)[j]? = some u → w.cell? ⟨b, o + j, none⟩ = some u := by
  obtain ⟨a', c', hv, _, _, hx⟩ := hr
  cases hv
  rcases hx with hx | ⟨b, o, ha, hx⟩
  · exact .inl (by rw [hx]; rfl)
  · refine .inr ⟨b, o, ha, fun j u hj => ?_⟩
    rw [List.getElem?_map] at hj
    cases hlj : l[j]? with
    | none => rw [hlj] at hj; cases hj
    | some x => rw [hlj] at hj; cases hj; exact hx j x hlj
theorem mapS_one (l : List (List UInt8)) : ∀ u ∈ l.map S, u.oneCell' = true := by
  intro u hu; obtain ⟨x, _, rfl⟩ := List.mem_map.1 hu; rfl
theorem mg_set2 {w : World} {b : Nat} {on : Bool} {qv mv : Value} (h : MGBox w b on qv mv) (u : Value) : MGBox (w.setCell ⟨b, 2, none⟩ u) b on qv u := by
  have := heap_set_cell (o := 2) h u; simpa using this
theorem mg_set1 {w : World} {b : Nat} {on : Bool} {qv mv : Value} (h : MGBox w b on qv mv) (u : Value) : MGBox (w.setCell ⟨b, 1, none⟩ u) b on u mv := by
  have := heap_set_cell (o := 1) h u; simpa using this

theorem keptG {w w' : World} {b : Nat} {X : Obj} (hb : Below w.heap.size w w') (h : w.heap[b]? = some X) : w'.heap[b]? = some X := (hb.block _ (heap_lt h)).trans h
theorem gcells {w : World} {b : Nat} {on : Bool} {qv mv : Value} (h : w.heap[b]? = some (GCells on qv mv)) : w.cell? ⟨b, 0, none⟩ = some (.bool on) ∧ w.cell? ⟨b, 1, none⟩ = some qv ∧ w.cell? ⟨b, 2, none⟩ = some mv :=
  ⟨heap_cell h (j := 0) (v := .bool on) rfl, heap_cell h (j := 1) (v := qv) rfl, heap_cell h (j := 2) (v := mv) rfl⟩
theorem mcells {w : World} {b : Nat} {on : Bool} {qv mv : Value} (h : MGBox w b on qv mv) : w.cell? ⟨b, 0, none⟩ = some (.bool on) ∧ w.cell? ⟨b, 1, none⟩ = some qv ∧ w.cell? ⟨b, 2, none⟩ = some mv :=
  ⟨heap_cell h (j := 0) (v := .bool on) rfl, heap_cell h (j := 1) (v := qv) rfl, heap_cell h (j := 2) (v := mv) rfl⟩
end Go.Proofs.YtengciicdnkgaaaGreatDoor
