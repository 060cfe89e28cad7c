/- Worlds that turn in named blocks alone: what stays. -/
import Derived.Test.YtffdcnhpjgpcdaaGreatDoorBase
import Derived.Maps.AppendAt
import Derived.RangeFuncBox
namespace Go.Proofs.YtffdcnhpjgpcdaaGreatDoor
open Go.RowKit

/-- What an iterator's or the book-keeping's step may turn. -/
def Turns (Pv : Nat → Prop) (N : Nat) (A : World) (row : Option Nat) : Prop := ∀ r, row = some r → Pv r ∨ (N ≤ r ∧ ∃ o : Obj, A.heap[r]? = some o ∧ o.isCells = false)

theorem boxed_turn {Pv : Nat → Prop} {N : Nat} {A B : World} {row : Option Nat} {k t : Nat} {v : Value} (h : Boxed A k t v) (hg : A.grownBy B row) (hr : Turns Pv N A row) (hk : ¬ Pv k) : Boxed B k t v := by
  refine h.kept hg (fun e => ?_)
  rcases hr k e.symm with h1 | ⟨_, o, ho, hc⟩
  · exact hk h1
  · rw [show A.heap[k]? = _ from h] at ho; cases ho; cases hc

theorem row_turn {Pv : Nat → Prop} {N : Nat} {A B : World} {row : Option Nat} {base e size n : Nat} {v : Value} {xs : List Value} (h : A.ownsRow base e size v n xs) (hg : A.grownBy B row) (hr : Turns Pv N A row) (hk : ∀ r, Pv r → r < base) : B.ownsRow base e size v n xs := by
  refine h.kept hg ?_
  rcases h.2 with ⟨rfl, _⟩ | ⟨g, cap, cur, rfl, hbg, hgb, _⟩
  · exact .inl rfl
  · refine .inr fun e' => ?_
    rcases hr g (by simpa [Value.ownBlock] using e'.symm) with h1 | ⟨_, o, ho, hc⟩
    · have := hk g h1; omega
    · rw [hgb] at ho; cases ho; cases hc

theorem below_turn {Pv : Nat → Prop} {N : Nat} {A B W : World} {row : Option Nat} {n₀ : Nat} (h : Below n₀ W A) (hg : A.grownBy B row) (hr : Turns Pv N A row) (hk : ∀ r, Pv r → n₀ ≤ r) (hN : n₀ ≤ N) (hA : n₀ ≤ A.heap.size) : Below n₀ W B :=
  h.grown hg hA (fun r e => by rcases hr r e with h1 | ⟨h1, _⟩; · exact hk r h1
                               · omega)

theorem size_setCell (w : World) (a : Addr) (v : Value) : (w.setCell a v).heap.size = w.heap.size := by
  show (w.heap.modify _ _).size = _
  rw [Array.size_modify]

end Go.Proofs.YtffdcnhpjgpcdaaGreatDoor
