/- Words that all walks share: rows of texts in memory, the library's variable MaxLen, small lemmas. -/
import Derived.Test.YtffdcnhpjgpcdaaGreatDoorPlain
import Derived.WalkKit
import Derived.WalkSpells
import Derived.WalkLawsBesides
import Derived.Lib.Hide
import Derived.Outline
import Derived.Laws.AppendOwn
import Derived.Below
import Derived.Deep.QuietTactic
import Derived.BigQuiet
import Derived.WalkSmall
import Derived.Deep.DeepMust
import Derived.Test.YtffdcnhpjgpcdaaGreatDoorProg
namespace Go.Proofs.YtffdcnhpjgpcdaaGreatDoor
open Go.RowKit

theorem infoStr : (Tryz.prog.info? 9).map (fun i => (i.zero, i.size, i.bytes)) = some (some (.string ⟨#[]⟩), 1, 16) := by kernel_rfl

/-- The library's variable MaxLen holds some number. -/
def Mx (w : World) : Prop := ∃ m, w.cell? ⟨0, 0, none⟩ = some (.int .i64 m)

theorem lt_of_cell {w : World} {b o : Nat} {v : Value} (h : w.cell? ⟨b, o, none⟩ = some v) : b < w.heap.size := by
  unfold World.cell? at h
  rcases Nat.lt_or_ge b w.heap.size with hb | hb
  · exact hb
  · rw [Array.getElem?_eq_none (by simpa using hb)] at h; simp at h

theorem cell_below {w w' : World} (hb : Below w.heap.size w w') {b o : Nat} {v : Value} (h : w.cell? ⟨b, o, none⟩ = some v) : w'.cell? ⟨b, o, none⟩ = some v :=
  (hb.cell (p := ⟨b, o, none⟩) (lt_of_cell h)).trans h

theorem Mx.below {w w' : World} (h : Mx w) (hb : Below w.heap.size w w') : Mx w' := by
  obtain ⟨m, hm⟩ := h
  exact ⟨m, cell_below hb hm⟩

/-- All old cells and marks read as before. -/
theorem bcell {W w1 : World} (hb : Below W.heap.size W w1) : (∀ b o, b < W.heap.size → w1.cell? ⟨b, o, none⟩ = W.cell? ⟨b, o, none⟩) ∧ (∀ b o, b < W.heap.size → w1.frozen? ⟨b, o, none⟩ = W.frozen? ⟨b, o, none⟩) :=
  ⟨fun b o h => hb.cell (p := ⟨b, o, none⟩) h, fun b o h => hb.frozen (p := ⟨b, o, none⟩) h⟩

theorem cell_old {w : World} {b f : Nat} {v : Value} (h : w.cell? ⟨b, f, none⟩ = some v) (o : Obj) : (w.alloc o).cell? ⟨b, f, none⟩ = some v := cell_below ((Below.refl _ _).alloc (Nat.le_refl _) _) h
theorem cell_new (w : World) (cs : Array Value) (e j : Nat) {v : Value} (h : cs[j]? = some v) : (w.alloc (.cells cs e)).cell? ⟨w.heap.size, j, none⟩ = some v := by
  rw [World.cell?_alloc_at _ _ _ _ rfl]; exact h
theorem cell_drew {w : World} {a : Addr} {v : Value} (h : w.cell? a = some v) : w.drew.cell? a = some v := h
theorem cell_drewN {w : World} {a : Addr} {v : Value} (h : w.cell? a = some v) (n : Nat) : (w.drewN n).cell? a = some v := h
theorem is_some {w : World} {a : Addr} {v : Value} (h : w.cell? a = some v) : (w.cell? a).isSome = true := by rw [h]; rfl

/-- The slice v reads as the texts xs. -/
def StrRow (w : World) (v : Value) (xs : List (List UInt8)) : Prop :=
  ∃ a c, v = .slice a xs.length c ∧ xs.length ≤ c ∧ c ≤ maxLen ∧ (xs = [] ∨ ∃ b o, a = some ⟨b, o, none⟩ ∧ ∀ j x, xs[j]? = some x → w.cell? ⟨b, o + j, none⟩ = some (S x))

theorem StrRow.below {w w' : World} {v : Value} {xs : List (List UInt8)} (h : StrRow w v xs) (hb : Below w.heap.size w w') : StrRow w' v xs := by
  obtain ⟨a, c, hv, hc, hm, h⟩ := h
  refine ⟨a, c, hv, hc, hm, ?_⟩
  rcases h with h | ⟨b, o, ha, h⟩
  · exact .inl h
  · exact .inr ⟨b, o, ha, fun j x hx => cell_below hb (h j x hx)⟩

theorem StrRow.take {w : World} {a : Option Addr} {c : Nat} {xs : List (List UInt8)} (h : StrRow w (.slice a xs.length c) xs) {n : Nat} (hn : n ≤ xs.length) : StrRow w (.slice a n c) (xs.take n) := by
  obtain ⟨a', c', hv, hc, hm, hx⟩ := h
  cases hv
  refine ⟨a, c, by rw [List.length_take, Nat.min_eq_left hn], by rw [List.length_take]; omega, hm, ?_⟩
  rcases hx with hx | ⟨b, o, ha, hx⟩
  · exact .inl (by rw [hx]; simp)
  · refine .inr ⟨b, o, ha, fun j x hj => hx j x ?_⟩
    rw [List.getElem?_take] at hj
    split at hj
    · exact hj
    · cases hj
theorem StrRow.nil (w : World) : StrRow w (.slice none 0 0) [] := ⟨none, 0, rfl, Nat.le_refl _, by unfold maxLen; omega, .inl rfl⟩

theorem StrRow.of_owns {w : World} {base e : Nat} {v : Value} {xs : List (List UInt8)} (h : w.ownsRow base e 1 v xs.length (xs.map S)) : StrRow w v xs := by
  obtain ⟨_, h⟩ := h
  rcases h with ⟨hv, hn⟩ | ⟨g, cap, cur, hv, _, hh, hc, hm, hs, ht⟩
  · have : xs = [] := List.length_eq_zero_iff.1 hn
    subst this; subst hv; exact StrRow.nil w
  · refine ⟨_, _, hv, hc, hm, .inr ⟨g, 0, rfl, fun j x hx => ?_⟩⟩
    have h1 : cur.toList[j]? = some (S x) := by
      have : (cur.toList.take (xs.length * 1))[j]? = some (S x) := by rw [ht]; simp [hx]
      rw [List.getElem?_take] at this
      split at this
      · exact this
      · cases this
    simp only [World.cell?, hh]
    simpa using h1

theorem row_lit (w : World) (e : Nat) (xs : List (List UInt8)) (h : xs.length ≤ 1100000) : StrRow (w.alloc (.cells (xs.map S).toArray e)) (.slice (some ⟨w.heap.size, 0, none⟩) xs.length xs.length) xs := by
  refine ⟨_, _, rfl, Nat.le_refl _, by unfold maxLen; omega, .inr ⟨_, _, rfl, fun j x hx => ?_⟩⟩
  rw [World.cell?_alloc_at _ _ _ _ rfl]
  simp [hx]

theorem below_drewN {w : World} (n : Nat) : Below w.heap.size w (w.drewN n) := ⟨rfl, rfl, rfl, Nat.le_refl _, fun _ _ => rfl⟩
theorem belowN {B : Nat} {a w : World} (h : Below B a w) (n : Nat) : Below B a (w.drewN n) := h.trans ⟨rfl, rfl, rfl, Nat.le_refl _, fun _ _ => rfl⟩
theorem below_chain {B : Nat} {a b c : World} (h : Below B a b) (k : Below b.heap.size b c) (hB : B ≤ b.heap.size) : Below B a c := h.trans (k.mono hB)

theorem S_extract (l : List UInt8) (f k : Nat) : Value.string (({ data := l.toArray } : ByteArray).extract f k) = S (cutL l f k) := by
  congr 1
  apply ByteArray.ext
  apply Array.ext'
  rw [Lib.extract_data]
  simp [cutL, List.drop_take]
theorem new_cell (w : World) (v : Value) (e : Nat) : ∀ (j : Nat) u, [v][j]? = some u → (w.alloc (.cells #[v] e)).cell? ((⟨w.heap.size, 0, none⟩ : Addr).add j) = some u := by
  intro j u hj
  match j, hj with
  | 0, hj => simp at hj; subst hj; simp [Addr.add]
/-- A world of a walk that began in w0: what lay in w0 lies as it lay; the library's variable holds some number. -/
structure Wd (w0 w : World) : Prop where
  below : Below w0.heap.size w0 w
  mx : Mx w
theorem Wd.start {w : World} (h : Mx w) : Wd w w := ⟨Below.refl _ _, h⟩
theorem Wd.next {w0 w w' : World} (h : Wd w0 w) (hb : Below w.heap.size w w') : Wd w0 w' := ⟨below_chain h.below hb h.below.size, h.mx.below hb⟩
theorem Wd.drew {w0 w : World} (h : Wd w0 w) (n : Nat) : Wd w0 (w.drewN n) := h.next (below_drewN n)
theorem noslash_append {l a b : List UInt8} (h : l = a ++ b) (c : UInt8) (hc : c ∈ l) : c ∈ a ∨ c ∈ b := by rw [h] at hc; exact List.mem_append.1 hc
end Go.Proofs.YtffdcnhpjgpcdaaGreatDoor
