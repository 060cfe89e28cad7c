/- Rows of elements of K cells: what a call owns reads as such a row. -/
import Derived.Test.YtnnjgokaabaaoaaDoorRowK
namespace Go.Proofs.YtnnjgokaabaaoaaDoor
open Go.RowKit

section
variable {α : Type} {f : α → List Value} {K : Nat}
theorem flat_atK (hf : ∀ x, (f x).length = K) : ∀ (l : List α) (j : Nat) (x : α) (i : Nat) (u : Value), l[j]? = some x → (f x)[i]? = some u → (l.flatMap f)[j * K + i]? = some u
  | [], j, x, i, u, h, _ => by simp at h
  | y :: ys, 0, x, i, u, h, hu => by
    simp at h; subst h
    rw [List.flatMap_cons, Nat.zero_mul, Nat.zero_add, List.getElem?_append_left (List.getElem?_eq_some_iff.1 hu).1]
    exact hu
  | y :: ys, j + 1, x, i, u, h, hu => by
    have ih := flat_atK hf ys j x i u (by simpa using h) hu
    rw [List.flatMap_cons, List.getElem?_append_right (by rw [hf, Nat.add_mul]; omega)]
    rw [← ih]
    congr 1
    rw [hf, Nat.add_mul]; omega
theorem Row.of_ownsK (hf : ∀ x, (f x).length = K) {w : World} {base e : Nat} {v : Value} {l : List α} (h : w.ownsRow base e K v l.length (l.flatMap f)) : Row f w v l := by
  obtain ⟨_, h⟩ := h
  rcases h with ⟨hv, hn⟩ | ⟨g, cap, cur, hv, _, hh, hc, hm, hs, ht⟩
  · have : l = [] := List.length_eq_zero_iff.1 hn
    subst this; subst hv; exact Row.nil _ w
  · refine ⟨_, _, hv, hc, hm, .inr ⟨g, 0, rfl, fun j x hx i u hu => ?_⟩⟩
    have h1 : cur.toList[j * (f x).length + i]? = some u := by
      have : (cur.toList.take (l.length * K))[j * (f x).length + i]? = some u := by rw [ht, hf]; exact flat_atK hf l j x i u hx hu
      rw [List.getElem?_take] at this
      split at this
      · exact this
      · cases this
    simp only [World.cell?, hh]
    simpa using h1
theorem row_flatK (hf : ∀ x, (f x).length = K) (hK : 0 < K) {w : World} {a : Option Addr} {c : Nat} {l : List α} (hr : Row f w (.slice a l.length c) l) : l.flatMap f = [] ∨ ∃ b o, a = some ⟨b, o, none⟩ ∧ ∀ j u, (l.flatMap f)[j]? = some u → w.cell? ⟨b, o + j, none⟩ = some u := by
  obtain ⟨a', c', hv, _, _, hx⟩ := hr
  cases hv
  rcases hx with hx | ⟨b, o, ha, hx⟩
  · exact .inl (by rw [hx]; rfl)
  · refine .inr ⟨b, o, ha, fun j u hj => ?_⟩
    have hlt : j < (l.flatMap f).length := (List.getElem?_eq_some_iff.1 hj).1
    rw [flat_lenK hf] at hlt
    have hk : j / K < l.length := Nat.div_lt_of_lt_mul (by rw [Nat.mul_comm]; exact hlt)
    have hm : j % K < K := Nat.mod_lt _ hK
    have h1 := hx (j / K) l[j / K] (by simp [hk]) (j % K)
    have h2 := flat_atK hf l (j / K) l[j / K] (j % K)
    have e : j / K * K + j % K = j := Nat.div_add_mod' j K
    have h4 : ∃ v, (f l[j / K])[j % K]? = some v := ⟨_, List.getElem?_eq_getElem (by rw [hf]; exact hm)⟩
    obtain ⟨v, hv⟩ := h4
    have h5 := h2 v (by simp [hk]) hv
    rw [e, hj] at h5
    cases h5
    have h6 := h1 u hv
    rwa [hf, Nat.add_assoc, e] at h6
theorem flat_oneK {l : List α} (h1 : ∀ x ∈ l, ∀ u ∈ f x, u.oneCell' = true) : ∀ u ∈ l.flatMap f, u.oneCell' = true := by
  intro u hu
  obtain ⟨x, hm, hx⟩ := List.mem_flatMap.1 hu
  exact h1 x hm u hx
/-- The cells of one of them. -/
theorem row_at {w : World} {b o : Nat} {l : List α} (h : ∀ j x, l[j]? = some x → ∀ i u, (f x)[i]? = some u → w.cell? ⟨b, o + j * (f x).length + i, none⟩ = some u) {j : Nat} (hj : j < l.length) {i : Nat} {u : Value} (hu : (f l[j])[i]? = some u) :
    w.cell? ⟨b, o + j * (f l[j]).length + i, none⟩ = some u := h j _ (by simp [hj]) i u hu
end
theorem ba_cut (l : List UInt8) (f k : Nat) : ({ data := l.toArray } : ByteArray).extract f k = ⟨(cutL l f k).toArray⟩ := Value.string.inj (S_extract l f k)
theorem ba_cat (a b : List UInt8) : (⟨a.toArray⟩ : ByteArray) ++ ⟨b.toArray⟩ = ⟨(a ++ b).toArray⟩ := by
  apply ByteArray.ext
  simp [ByteArray.data_append]
theorem cutL_head (l : List UInt8) (k : Nat) : cutL l 0 k = l.take k := by simp [cutL]
theorem cutL_tail (l : List UInt8) (f k : Nat) (h : l.length ≤ k) : cutL l f k = l.drop f := by rw [cutL_full h]
theorem new_cells3 (w : World) (v u x : Value) (e : Nat) : ∀ (j : Nat) y, [v, u, x][j]? = some y → (w.alloc (.cells #[v, u, x] e)).cell? ((⟨w.heap.size, 0, none⟩ : Addr).add j) = some y := by
  intro j y hj
  match j, hj with
  | 0, hj => simp at hj; subst hj; simp [Addr.add]
  | 1, hj => simp at hj; subst hj; simp [Addr.add]
  | 2, hj => simp at hj; subst hj; simp [Addr.add]
end Go.Proofs.YtnnjgokaabaaoaaDoor
