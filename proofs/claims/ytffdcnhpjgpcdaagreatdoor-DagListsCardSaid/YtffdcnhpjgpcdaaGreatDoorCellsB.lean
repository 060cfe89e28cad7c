/- Rows of elements of several cells in memory. -/
import Derived.Test.YtffdcnhpjgpcdaaGreatDoorBase
import Derived.Laws.BytesArg
import Derived.Lib.UnsafeStr
namespace Go.Proofs.YtffdcnhpjgpcdaaGreatDoor
open Go.RowKit

/-- The slice v reads as the elements xs, f the cells of one. -/
def Row {α : Type} (f : α → List Value) (w : World) (v : Value) (xs : List α) : Prop :=
  ∃ a c, v = .slice a xs.length c ∧ xs.length ≤ c ∧ c ≤ maxLen ∧ (xs = [] ∨ ∃ b o, a = some ⟨b, o, none⟩ ∧ ∀ j x, xs[j]? = some x → ∀ i u, (f x)[i]? = some u → w.cell? ⟨b, o + j * (f x).length + i, none⟩ = some u)

theorem Row.below {α : Type} {f : α → List Value} {w w' : World} {v : Value} {xs : List α} (h : Row f w v xs) (hb : Below w.heap.size w w') : Row f w' v xs := by
  obtain ⟨a, c, hv, hc, hm, h⟩ := h
  refine ⟨a, c, hv, hc, hm, ?_⟩
  rcases h with h | ⟨b, o, ha, h⟩
  · exact .inl h
  · exact .inr ⟨b, o, ha, fun j x hx i u hu => cell_below hb (h j x hx i u hu)⟩
theorem Row.nil {α : Type} (f : α → List Value) (w : World) : Row f w (.slice none 0 0) [] := ⟨none, 0, rfl, Nat.le_refl _, by unfold maxLen; omega, .inl rfl⟩

/-- A tree that is kept: its name, its key. -/
abbrev Snp := List UInt8 × List UInt8
abbrev snpC (x : Snp) : List Value := [S x.1, S x.2]
abbrev SnpV (x : Snp) : Value := .agg #[S x.1, S x.2]
abbrev SnpRow := Row snpC

theorem snp_cells {w : World} {b o : Nat} {xs : List Snp} (h : ∀ j x, xs[j]? = some x → ∀ i u, (snpC x)[i]? = some u → w.cell? ⟨b, o + j * (snpC x).length + i, none⟩ = some u) {j : Nat} (hj : j < xs.length) :
    w.cell? ⟨b, o + j * 2, none⟩ = some (S xs[j].1) ∧ w.cell? ⟨b, o + j * 2 + 1, none⟩ = some (S xs[j].2) :=
  ⟨h j xs[j] (by simp [hj]) 0 _ rfl, h j xs[j] (by simp [hj]) 1 _ rfl⟩

theorem flat_at : ∀ (xs : List Snp) (j : Nat) (x : Snp) (i : Nat) (u : Value), xs[j]? = some x → (snpC x)[i]? = some u → (xs.flatMap snpC)[j * (snpC x).length + i]? = some u
  | [], j, x, i, u, h, _ => by simp at h
  | y :: ys, 0, x, i, u, h, hu => by
    simp at h; subst h
    rw [List.flatMap_cons, Nat.zero_mul, Nat.zero_add, List.getElem?_append_left (List.getElem?_eq_some_iff.1 hu).1]
    exact hu
  | y :: ys, j + 1, x, i, u, h, hu => by
    have ih := flat_at ys j x i u (by simpa using h) hu
    rw [List.flatMap_cons, List.getElem?_append_right (by simp; omega)]
    rw [← ih]
    congr 1
    simp
    omega
theorem flat_len : ∀ xs : List Snp, (xs.flatMap snpC).length = xs.length * 2
  | [] => rfl
  | y :: ys => by rw [List.flatMap_cons, List.length_append, flat_len ys]; simp; omega

theorem Row.of_owns {w : World} {base e : Nat} {v : Value} {xs : List Snp} (h : w.ownsRow base e 2 v xs.length (xs.flatMap snpC)) : SnpRow w v xs := by
  obtain ⟨_, h⟩ := h
  rcases h with ⟨hv, hn⟩ | ⟨g, cap, cur, hv, _, hh, hc, hm, hs, ht⟩
  · have : xs = [] := List.length_eq_zero_iff.1 hn
    subst this; subst hv; exact Row.nil _ w
  · refine ⟨_, _, hv, hc, hm, .inr ⟨g, 0, rfl, fun j x hx i u hu => ?_⟩⟩
    have h1 : cur.toList[j * (snpC x).length + i]? = some u := by
      have : (cur.toList.take (xs.length * 2))[j * (snpC x).length + i]? = some u := by rw [ht]; exact flat_at xs j x i u hx hu
      rw [List.getElem?_take] at this
      split at this
      · exact this
      · cases this
    simp only [World.cell?, hh]
    simpa using h1
theorem new_cells (w : World) (v u : Value) (e : Nat) : ∀ (j : Nat) x, [v, u][j]? = some x → (w.alloc (.cells #[v, u] e)).cell? ((⟨w.heap.size, 0, none⟩ : Addr).add j) = some x := by
  intro j x hj
  match j, hj with
  | 0, hj => simp at hj; subst hj; simp [Addr.add]
  | 1, hj => simp at hj; subst hj; simp [Addr.add]
theorem new_cell_at {w : World} {b : Nat} (hb : b = w.heap.size) (v : Value) (e : Nat) : ∀ (j : Nat) u, [v][j]? = some u → (w.alloc (.cells #[v] e)).cell? ((⟨b, 0, none⟩ : Addr).add j) = some u := by
  subst hb; exact new_cell w v e
theorem new_cells_at {w : World} {b : Nat} (hb : b = w.heap.size) (v u : Value) (e : Nat) : ∀ (j : Nat) x, [v, u][j]? = some x → (w.alloc (.cells #[v, u] e)).cell? ((⟨b, 0, none⟩ : Addr).add j) = some x := by
  subst hb; exact new_cells w v u e
end Go.Proofs.YtffdcnhpjgpcdaaGreatDoor
