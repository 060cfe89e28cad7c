/- Worlds in which one block alone turns. -/
import Derived.Test.YtffdcnhpjgpcdaaGreatDoorNodeB
import Derived.Maps.AppendAt
namespace Go.Proofs.YtffdcnhpjgpcdaaGreatDoor
open Go.RowKit

/-- Of the old blocks only g may have turned. -/
abbrev Gro (g : Nat) (w w' : World) : Prop := w.grownBy w' (some g)
theorem gro_of {g : Nat} {w w' : World} (h : Below w.heap.size w w') : Gro g w w' := ⟨h.os, h.tape, h.output, h.size, fun k hk _ => h.block k hk⟩
theorem gro_chain {g : Nat} {w w1 w2 : World} (h : Gro g w w1) (h2 : Below w1.heap.size w1 w2) : Gro g w w2 := World.grownBy.trans h (gro_of h2)
theorem gro_set {g : Nat} {w w1 : World} (h : Gro g w w1) (o : Nat) (v : Value) : Gro g w (w1.setCell ⟨g, o, none⟩ v) :=
  World.grownBy.trans h ⟨rfl, rfl, rfl, by simp, fun k hk hne => by
    have hne' : k ≠ g := fun e => hne (by rw [e])
    simp [World.setCell, Array.getElem?_modify, hne'.symm]⟩
theorem gro_below {g B : Nat} {w w' : World} (h : Gro g w w') (hg : B ≤ g) (hw : B ≤ w.heap.size) : Below B w w' :=
  (Below.refl B w).grown h hw (fun j hj => by cases hj; exact hg)
theorem gro_cell {g : Nat} {w w' : World} (h : Gro g w w') {b o : Nat} {v : Value} (hb : b ≠ g) (hc : w.cell? ⟨b, o, none⟩ = some v) : w'.cell? ⟨b, o, none⟩ = some v :=
  h.cell hc (fun e => hb (Option.some.inj e))
theorem gro_own {g : Nat} {w w' : World} {base e k n : Nat} {v : Value} {xs : List Value} (h : w.ownsRow base e k v n xs) (hb : Gro g w w') (hg : g < base) : w'.ownsRow base e k v n xs :=
  h.kept hb (by
    rcases h.2 with ⟨h, _⟩ | ⟨b, cap, cur, h, hge, _⟩
    · rw [h]; exact .inl rfl
    · rw [h]; refine .inr ?_; simp [Value.ownBlock]; omega)
theorem gro_row {α : Type} {f : α → List Value} {g : Nat} {w w' : World} {v : Value} {l : List α} (h : Row f w v l) (hb : Gro g w w') (hg : ∀ j, v.ownBlock = some j → j ≠ g) : Row f w' v l := by
  obtain ⟨a, c, rfl, hc, hm, hx⟩ := h
  refine ⟨a, c, rfl, hc, hm, ?_⟩
  rcases hx with hx | ⟨b, o, rfl, hx⟩
  · exact .inl hx
  · exact .inr ⟨b, o, rfl, fun j x hj i u hu => gro_cell hb (hg b (by simp [Value.ownBlock])) (hx j x hj i u hu)⟩
end Go.Proofs.YtffdcnhpjgpcdaaGreatDoor
