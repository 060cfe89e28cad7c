/- Words that all walks share: rows of texts in memory, the library's variable MaxLen, small lemmas. Rolling hashes, and where texts are cut by them: plain. Numbers as bytes, in plain lists. Numbers and texts as bytes: there and back, in plain lists. -/
import Derived.Test.YtbmdoekfbkpaeaaGreatDoorJPlain
import Derived.WalkKit
import Derived.WalkSpells
import Derived.WalkLawsBesides
import Derived.Lib.Hide
import Derived.Outline
import Derived.Laws.AppendOwn
import Derived.Below
import Derived.Deep.QuietTactic
import Derived.BigQuiet
import Derived.WalkSmall
import Derived.Deep.DeepMust
import Derived.Test.YtbmdoekfbkpaeaaGreatDoorProg
import Derived.Laws.BitsAllLaws
import Derived.Lib.BitFns
namespace Go.Proofs.YtbmdoekfbkpaeaaGreatDoor
open Go.RowKit

theorem infoStr : (Tryz.prog.info? 9).map (fun i => (i.zero, i.size, i.bytes)) = some (some (.string ⟨#[]⟩), 1, 16) := by kernel_rfl

/-- The library's variable MaxLen holds some number. -/
def Mx (w : World) : Prop := ∃ m, w.cell? ⟨0, 0, none⟩ = some (.int .i64 m)

theorem lt_of_cell {w : World} {b o : Nat} {v : Value} (h : w.cell? ⟨b, o, none⟩ = some v) : b < w.heap.size := by
  unfold World.cell? at h
  rcases Nat.lt_or_ge b w.heap.size with hb | hb
  · exact hb
  · rw [Array.getElem?_eq_none (by simpa using hb)] at h; simp at h

theorem cell_below {w w' : World} (hb : Below w.heap.size w w') {b o : Nat} {v : Value} (h : w.cell? ⟨b, o, none⟩ = some v) : w'.cell? ⟨b, o, none⟩ = some v :=
  (hb.cell (p := ⟨b, o, none⟩) (lt_of_cell h)).trans h

theorem Mx.below {w w' : World} (h : Mx w) (hb : Below w.heap.size w w') : Mx w' := by
  obtain ⟨m, hm⟩ := h
  exact ⟨m, cell_below hb hm⟩

/-- All old cells and marks read as before. -/
theorem bcell {W w1 : World} (hb : Below W.heap.size W w1) : (∀ b o, b < W.heap.size → w1.cell? ⟨b, o, none⟩ = W.cell? ⟨b, o, none⟩) ∧ (∀ b o, b < W.heap.size → w1.frozen? ⟨b, o, none⟩ = W.frozen? ⟨b, o, none⟩) :=
  ⟨fun b o h => hb.cell (p := ⟨b, o, none⟩) h, fun b o h => hb.frozen (p := ⟨b, o, none⟩) h⟩

theorem cell_old {w : World} {b f : Nat} {v : Value} (h : w.cell? ⟨b, f, none⟩ = some v) (o : Obj) : (w.alloc o).cell? ⟨b, f, none⟩ = some v := cell_below ((Below.refl _ _).alloc (Nat.le_refl _) _) h
theorem cell_new (w : World) (cs : Array Value) (e j : Nat) {v : Value} (h : cs[j]? = some v) : (w.alloc (.cells cs e)).cell? ⟨w.heap.size, j, none⟩ = some v := by
  rw [World.cell?_alloc_at _ _ _ _ rfl]; exact h
theorem cell_drew {w : World} {a : Addr} {v : Value} (h : w.cell? a = some v) : w.drew.cell? a = some v := h
theorem cell_drewN {w : World} {a : Addr} {v : Value} (h : w.cell? a = some v) (n : Nat) : (w.drewN n).cell? a = some v := h
theorem is_some {w : World} {a : Addr} {v : Value} (h : w.cell? a = some v) : (w.cell? a).isSome = true := by rw [h]; rfl

/-- The slice v reads as the texts xs. -/
def StrRow (w : World) (v : Value) (xs : List (List UInt8)) : Prop :=
  ∃ a c, v = .slice a xs.length c ∧ xs.length ≤ c ∧ c ≤ maxLen ∧ (xs = [] ∨ ∃ b o, a = some ⟨b, o, none⟩ ∧ ∀ j x, xs[j]? = some x → w.cell? ⟨b, o + j, none⟩ = some (S x))

theorem StrRow.below {w w' : World} {v : Value} {xs : List (List UInt8)} (h : StrRow w v xs) (hb : Below w.heap.size w w') : StrRow w' v xs := by
  obtain ⟨a, c, hv, hc, hm, h⟩ := h
  refine ⟨a, c, hv, hc, hm, ?_⟩
  rcases h with h | ⟨b, o, ha, h⟩
  · exact .inl h
  · exact .inr ⟨b, o, ha, fun j x hx => cell_below hb (h j x hx)⟩

theorem StrRow.take {w : World} {a : Option Addr} {c : Nat} {xs : List (List UInt8)} (h : StrRow w (.slice a xs.length c) xs) {n : Nat} (hn : n ≤ xs.length) : StrRow w (.slice a n c) (xs.take n) := by
  obtain ⟨a', c', hv, hc, hm, hx⟩ := h
  cases hv
  refine ⟨a, c, by rw [List.length_take, Nat.min_eq_left hn], by rw [List.length_take]; omega, hm, ?_⟩
  rcases hx with hx | ⟨b, o, ha, hx⟩
  · exact .inl (by rw [hx]; simp)
  · refine .inr ⟨b, o, ha, fun j x hj => hx j x ?_⟩
    rw [List.getElem?_take] at hj
    split at hj
    · exact hj
    · cases hj
theorem StrRow.nil (w : World) : StrRow w (.slice none 0 0) [] := ⟨none, 0, rfl, Nat.le_refl _, by unfold maxLen; omega, .inl rfl⟩

theorem StrRow.of_owns {w : World} {base e : Nat} {v : Value} {xs : List (List UInt8)} (h : w.ownsRow base e 1 v xs.length (xs.map S)) : StrRow w v xs := by
  obtain ⟨_, h⟩ := h
  rcases h with ⟨hv, hn⟩ | ⟨g, cap, cur, hv, _, hh, hc, hm, hs, ht⟩
  · have : xs = [] := List.length_eq_zero_iff.1 hn
    subst this; subst hv; exact StrRow.nil w
  · refine ⟨_, _, hv, hc, hm, .inr ⟨g, 0, rfl, fun j x hx => ?_⟩⟩
    have h1 : cur.toList[j]? = some (S x) := by
      have : (cur.toList.take (xs.length * 1))[j]? = some (S x) := by rw [ht]; simp [hx]
      rw [List.getElem?_take] at this
      split at this
      · exact this
      · cases this
    simp only [World.cell?, hh]
    simpa using h1

theorem row_lit (w : World) (e : Nat) (xs : List (List UInt8)) (h : xs.length ≤ 1100000) : StrRow (w.alloc (.cells (xs.map S).toArray e)) (.slice (some ⟨w.heap.size, 0, none⟩) xs.length xs.length) xs := by
  refine ⟨_, _, rfl, Nat.le_refl _, by unfold maxLen; omega, .inr ⟨_, _, rfl, fun j x hx => ?_⟩⟩
  rw [World.cell?_alloc_at _ _ _ _ rfl]
  simp [hx]

theorem below_drewN {w : World} (n : Nat) : Below w.heap.size w (w.drewN n) := ⟨rfl, rfl, rfl, Nat.le_refl _, fun _ _ => rfl⟩
theorem belowN {B : Nat} {a w : World} (h : Below B a w) (n : Nat) : Below B a (w.drewN n) := h.trans ⟨rfl, rfl, rfl, Nat.le_refl _, fun _ _ => rfl⟩
theorem below_chain {B : Nat} {a b c : World} (h : Below B a b) (k : Below b.heap.size b c) (hB : B ≤ b.heap.size) : Below B a c := h.trans (k.mono hB)

theorem S_extract (l : List UInt8) (f k : Nat) : Value.string (({ data := l.toArray } : ByteArray).extract f k) = S (cutL l f k) := by
  congr 1
  apply ByteArray.ext
  apply Array.ext'
  rw [Lib.extract_data]
  simp [cutL, List.drop_take]
theorem new_cell (w : World) (v : Value) (e : Nat) : ∀ (j : Nat) u, [v][j]? = some u → (w.alloc (.cells #[v] e)).cell? ((⟨w.heap.size, 0, none⟩ : Addr).add j) = some u := by
  intro j u hj
  match j, hj with
  | 0, hj => simp at hj; subst hj; simp [Addr.add]
/-- A world of a walk that began in w0: what lay in w0 lies as it lay; the library's variable holds some number. -/
structure Wd (w0 w : World) : Prop where
  below : Below w0.heap.size w0 w
  mx : Mx w
theorem Wd.start {w : World} (h : Mx w) : Wd w w := ⟨Below.refl _ _, h⟩
theorem Wd.next {w0 w w' : World} (h : Wd w0 w) (hb : Below w.heap.size w w') : Wd w0 w' := ⟨below_chain h.below hb h.below.size, h.mx.below hb⟩
theorem Wd.drew {w0 w : World} (h : Wd w0 w) (n : Nat) : Wd w0 (w.drewN n) := h.next (below_drewN n)
theorem noslash_append {l a b : List UInt8} (h : l = a ++ b) (c : UInt8) (hc : c ∈ l) : c ∈ a ∨ c ∈ b := by rw [h] at hc; exact List.mem_append.1 hc
end Go.Proofs.YtbmdoekfbkpaeaaGreatDoor

namespace Go.Proofs.YtbmdoekfbkpaeaaGreatDoor
open Go.RowKit

def mixG (m d t : Int) : Int := IntKind.u64.wrap (bits .xor .u64 m (m / d) * t)
/-- what a byte adds. -/
def tabG (b : UInt8) : Int := mixG (mixG (mixG (IntKind.u64.wrap (IntKind.u64.wrap (IntKind.u64.wrap ((b.toNat : Nat) : Int) + 1) * 11400714819323198485)) 1073741824 13787848793156543929) 134217728 10723151780598845931) 2147483648 1
def rollG (h : Int) (b : UInt8) : Int := IntKind.u64.wrap (IntKind.u64.wrap (h * 2) + tabG b)
theorem wrap64_range (x : Int) : 0 ≤ IntKind.u64.wrap x ∧ IntKind.u64.wrap x < 18446744073709551616 := by
  rw [IntKind.wrap_u64]; omega
theorem rollG_range (h : Int) (b : UInt8) : 0 ≤ rollG h b ∧ rollG h b < 18446744073709551616 := wrap64_range _

theorem bitLenAux_le : ∀ (f x n : Nat), x < 2 ^ f → (Lib.bitLenAux f x ≤ n ↔ x < 2 ^ n)
  | 0, x, n, h => by
    have : x = 0 := by simpa using h
    subst this
    simp [Lib.bitLenAux, Nat.two_pow_pos]
  | f + 1, x, n, h => by
    unfold Lib.bitLenAux
    by_cases h0 : x = 0
    · subst h0; simp [Nat.two_pow_pos]
    · rw [if_neg h0]
      have ih := bitLenAux_le f (x / 2) (n - 1) (by rw [Nat.pow_succ] at h; omega)
      cases n with
      | zero => simp; omega
      | succ n =>
        rw [show n + 1 - 1 = n from rfl] at ih
        rw [Nat.pow_succ]
        omega
theorem bitLen_le {x n : Nat} (h : x < 18446744073709551616) : Lib.bitLen x ≤ n ↔ x < 2 ^ n := bitLenAux_le 64 x n h

/-- Is a place behind a byte one to cut at? -/
def cutB (k i : Nat) (h : Int) : Bool := if i < 2 ^ k then decide (h < 2 ^ (63 - k)) else decide (h < 2 ^ (65 - k))
def goC (k : Nat) : Nat → Int → List UInt8 → Nat
  | i, _, [] => i
  | i, h, c :: t => if cutB k i (rollG h c) = true then i + 1 else goC k (i + 1) (rollG h c) t
/-- How many bytes the first piece has. -/
def cutC (x k z : Nat) (s : List UInt8) : Nat := if s.length ≤ x then s.length else goC k x 0 ((s.take z).drop x)
def piecesF (x k z : Nat) : Nat → List UInt8 → List (List UInt8)
  | 0, _ => []
  | n + 1, s => if s = [] then [] else s.take (cutC x k z s) :: piecesF x k z n (s.drop (cutC x k z s))
def piecesC (x k z : Nat) (s : List UInt8) : List (List UInt8) := piecesF x k z s.length s
/-- Fit parameters, as numbers. -/
structure FitC (x k z : Nat) : Prop where
  x1 : 1 ≤ x
  k1 : 1 ≤ k
  k12 : k ≤ 12
  xy : x ≤ 2 ^ k
  yz : 2 ^ k ≤ z
  z4 : z ≤ 4096

theorem goC_le (k : Nat) : ∀ (l : List UInt8) (i : Nat) (h : Int), i ≤ goC k i h l ∧ goC k i h l ≤ i + l.length
  | [], i, h => by simp [goC]
  | c :: t, i, h => by
    unfold goC
    split
    · rw [List.length_cons]; omega
    · have := goC_le k t (i + 1) (rollG h c)
      rw [List.length_cons]; omega
theorem goC_at {k i j : Nat} {h : Int} {l : List UInt8} (hj : j < l.length) : goC k i h (l.drop j) = if cutB k i (rollG h l[j]) = true then i + 1 else goC k (i + 1) (rollG h l[j]) (l.drop (j + 1)) := by
  rw [List.drop_eq_getElem_cons hj]; rfl
theorem goC_end {k i j : Nat} {h : Int} {l : List UInt8} (hj : l.length ≤ j) : goC k i h (l.drop j) = i := by
  rw [List.drop_eq_nil_of_le hj]; rfl
section
variable {x k z : Nat} {s : List UInt8}
theorem cutC_le : cutC x k z s ≤ s.length := by
  unfold cutC
  split
  · exact Nat.le_refl _
  · have := (goC_le k ((s.take z).drop x) x 0).2
    rw [List.length_drop, List.length_take] at this
    omega
theorem cutC_max (hf : FitC x k z) : cutC x k z s ≤ z := by
  have h1 := hf.xy
  have h2 := hf.yz
  unfold cutC
  split
  · omega
  · have := (goC_le k ((s.take z).drop x) x 0).2
    rw [List.length_drop, List.length_take] at this
    omega
theorem cutC_pos (hf : FitC x k z) (hs : s ≠ []) : 1 ≤ cutC x k z s := by
  have h1 := hf.x1
  unfold cutC
  split
  · exact List.length_pos_iff.2 hs
  · have := (goC_le k ((s.take z).drop x) x 0).1
    omega
theorem piecesF_more (hf : FitC x k z) : ∀ (n m : Nat) (s : List UInt8), s.length ≤ n → s.length ≤ m → piecesF x k z n s = piecesF x k z m s
  | 0, m, s, h1, _ => by
    obtain rfl : s = [] := List.length_eq_zero_iff.1 (by omega)
    cases m <;> simp [piecesF]
  | n + 1, 0, s, _, h2 => by
    obtain rfl : s = [] := List.length_eq_zero_iff.1 (by omega)
    simp [piecesF]
  | n + 1, m + 1, s, h1, h2 => by
    unfold piecesF
    by_cases hs : s = []
    · rw [if_pos hs, if_pos hs]
    · have hp := cutC_pos hf hs
      rw [if_neg hs, if_neg hs, piecesF_more hf n m _ (by rw [List.length_drop]; omega) (by rw [List.length_drop]; omega)]
theorem piecesC_nil : piecesC x k z [] = [] := rfl
theorem piecesC_cons (hf : FitC x k z) (hs : s ≠ []) : piecesC x k z s = s.take (cutC x k z s) :: piecesC x k z (s.drop (cutC x k z s)) := by
  have hp := cutC_pos hf hs
  have h1 : 0 < s.length := List.length_pos_iff.2 hs
  obtain ⟨n, hn⟩ : ∃ n, s.length = n + 1 := ⟨s.length - 1, by omega⟩
  unfold piecesC
  rw [hn, piecesF, if_neg hs, piecesF_more hf n (s.drop (cutC x k z s)).length _ (by rw [List.length_drop]; omega) (Nat.le_refl _)]
theorem piecesF_all (hf : FitC x k z) : ∀ (n : Nat) (s : List UInt8), s.length ≤ n → (piecesF x k z n s).flatten = s ∧ (∀ t ∈ piecesF x k z n s, 1 ≤ t.length ∧ t.length ≤ 4096) ∧ (piecesF x k z n s).length ≤ s.length
  | 0, s, h => by
    obtain rfl : s = [] := List.length_eq_zero_iff.1 (by omega)
    simp [piecesF]
  | n + 1, s, h => by
    unfold piecesF
    by_cases hs : s = []
    · subst hs; simp
    · have hp := cutC_pos hf hs
      have hm := cutC_max (s := s) hf
      have hl : cutC x k z s ≤ s.length := cutC_le
      have hz := hf.z4
      obtain ⟨h1, h2, h3⟩ := piecesF_all hf n (s.drop (cutC x k z s)) (by rw [List.length_drop]; omega)
      rw [if_neg hs]
      refine ⟨by rw [List.flatten_cons, h1, List.take_append_drop], fun t ht => ?_, by rw [List.length_cons]; rw [List.length_drop] at h3; omega⟩
      rcases List.mem_cons.1 ht with rfl | ht
      · rw [List.length_take]; omega
      · exact h2 t ht
theorem piecesC_flat (hf : FitC x k z) : (piecesC x k z s).flatten = s := (piecesF_all hf _ s (Nat.le_refl _)).1
theorem piecesC_each (hf : FitC x k z) : ∀ t ∈ piecesC x k z s, 1 ≤ t.length ∧ t.length ≤ 4096 := (piecesF_all hf _ s (Nat.le_refl _)).2.1
theorem piecesC_len (hf : FitC x k z) : (piecesC x k z s).length ≤ s.length := (piecesF_all hf _ s (Nat.le_refl _)).2.2
end

/-! The program's words for the same. -/
/-- The number of zeros ahead of a hash. -/
theorem zeros_le {h : Int} {n : Nat} (h0 : 0 ≤ h) (h1 : h < 18446744073709551616) (hn : n ≤ 64) : ((n : Int) ≤ 64 - (Lib.bitLen h.toNat : Int)) ↔ h < 2 ^ (64 - n) := by
  have h2 := bitLen_le (x := h.toNat) (n := 64 - n) (by omega)
  have h3 : h < 2 ^ (64 - n) ↔ h.toNat < 2 ^ (64 - n) := by
    have : ((2 ^ (64 - n) : Nat) : Int) = (2 : Int) ^ (64 - n) := by rw [Int.natCast_pow]; rfl
    rw [← this]; omega
  rw [h3, ← h2]; omega
theorem cutB_lo {k i : Nat} {h : Int} (hk : k ≤ 12) (h0 : 0 ≤ h) (h1 : h < 18446744073709551616) (hi : i < 2 ^ k) : cutB k i h = !decide (64 - (Lib.bitLen h.toNat : Int) ≤ (k : Int)) := by
  have := zeros_le (n := k + 1) h0 h1 (by omega)
  unfold cutB
  rw [if_pos hi, Bool.eq_iff_iff]
  rw [show 64 - (k + 1) = 63 - k by omega] at this
  simp only [decide_eq_true_eq, Bool.not_eq_true', decide_eq_false_iff_not]
  rw [← this]; omega
theorem cutB_hi {k i : Nat} {h : Int} (hk1 : 1 ≤ k) (hk : k ≤ 12) (h0 : 0 ≤ h) (h1 : h < 18446744073709551616) (hi : ¬ i < 2 ^ k) : cutB k i h = !decide (64 - (Lib.bitLen h.toNat : Int) < (k : Int) - 1) := by
  have := zeros_le (n := k - 1) h0 h1 (by omega)
  unfold cutB
  rw [if_neg hi, Bool.eq_iff_iff]
  rw [show 64 - (k - 1) = 65 - k by omega] at this
  simp only [decide_eq_true_eq, Bool.not_eq_true', decide_eq_false_iff_not]
  rw [← this]; omega
end Go.Proofs.YtbmdoekfbkpaeaaGreatDoor

namespace Go.Proofs.YtbmdoekfbkpaeaaGreatDoor

/-- A number as bytes. -/
def putV (n : Nat) : List UInt8 := if n < 128 then [UInt8.ofNat n] else UInt8.ofNat (n % 128 + 128) :: putV (n / 128)
termination_by n
decreasing_by omega

/-- The number that bytes begin with, how many they are, what is wrong: from byte i on, acc so far. -/
def takeGo : Nat → Nat → List UInt8 → Nat × Nat × Int
  | _, _, [] => (0, 0, 1)
  | i, acc, c :: cs =>
    if i = 9 ∧ 1 < c.toNat then (0, 0, 4)
    else if c.toNat < 128 then (if c.toNat = 0 ∧ 0 < i then (0, 0, 2) else (acc + c.toNat % 128 * 2 ^ (7 * i), i + 1, 0))
    else takeGo (i + 1) (acc + c.toNat % 128 * 2 ^ (7 * i)) cs
def takeV (l : List UInt8) : Nat × Nat × Int := takeGo 0 0 l

def putText (l : List UInt8) : List UInt8 := if 65536 < l.length then [] else putV l.length ++ l
def takeText (l : List UInt8) : List UInt8 × Nat × Int :=
  if (takeV l).2.2 ≠ 0 then ([], 0, (takeV l).2.2)
  else if 65536 < (takeV l).1 then ([], 0, 4)
  else if l.length - (takeV l).2.1 < (takeV l).1 then ([], 0, 1)
  else (cutL l (takeV l).2.1 ((takeV l).2.1 + (takeV l).1), (takeV l).2.1 + (takeV l).1, 0)

theorem putV_small {n : Nat} (h : n < 128) : putV n = [UInt8.ofNat n] := by rw [putV, if_pos h]
theorem putV_big {n : Nat} (h : ¬ n < 128) : putV n = UInt8.ofNat (n % 128 + 128) :: putV (n / 128) := by rw [putV, if_neg h]

theorem takeGo_end {l : List UInt8} {i acc : Nat} (h : l.length ≤ i) : takeGo i acc (l.drop i) = (0, 0, 1) := by
  rw [List.drop_eq_nil_of_le h]; rfl
theorem takeGo_at {l : List UInt8} {i acc : Nat} (h : i < l.length) : takeGo i acc (l.drop i) =
    if i = 9 ∧ 1 < l[i].toNat then (0, 0, 4)
    else if l[i].toNat < 128 then (if l[i].toNat = 0 ∧ 0 < i then (0, 0, 2) else (acc + l[i].toNat % 128 * 2 ^ (7 * i), i + 1, 0))
    else takeGo (i + 1) (acc + l[i].toNat % 128 * 2 ^ (7 * i)) (l.drop (i + 1)) := by
  rw [List.drop_eq_getElem_cons h]; rfl

theorem acc_bound {i acc d : Nat} (h9 : i ≤ 9) (ha : acc < 2 ^ (7 * i)) (hd : d < 128) (h1 : i = 9 → d ≤ 1) : acc + d * 2 ^ (7 * i) < 2 ^ 64 ∧ d * 2 ^ (7 * i) < 2 ^ 64 ∧ (i < 9 → acc + d * 2 ^ (7 * i) < 2 ^ (7 * (i + 1))) := by
  have : i = 0 ∨ i = 1 ∨ i = 2 ∨ i = 3 ∨ i = 4 ∨ i = 5 ∨ i = 6 ∨ i = 7 ∨ i = 8 ∨ i = 9 := by omega
  rcases this with rfl | rfl | rfl | rfl | rfl | rfl | rfl | rfl | rfl | rfl <;> simp at ha ⊢ <;> (try have := h1 rfl) <;> omega

/-- What was taken lies in the bytes, and is a word. -/
theorem takeGo_ok : ∀ (l : List UInt8) (i acc : Nat), i ≤ 9 → acc < 2 ^ (7 * i) → (takeGo i acc l).2.2 = 0 → (takeGo i acc l).2.1 ≤ i + l.length ∧ i < (takeGo i acc l).2.1 ∧ (takeGo i acc l).1 < 2 ^ 64
  | [], i, acc, _, _, h => by simp [takeGo] at h
  | c :: cs, i, acc, h9, ha, h => by
    unfold takeGo at h ⊢
    by_cases h1 : i = 9 ∧ 1 < c.toNat
    · rw [if_pos h1] at h; simp at h
    rw [if_neg h1] at h ⊢
    have hb := acc_bound (d := c.toNat % 128) h9 ha (by omega) (by intro e; have : ¬ 1 < c.toNat := fun hh => h1 ⟨e, hh⟩; omega)
    by_cases h2 : c.toNat < 128
    · rw [if_pos h2] at h ⊢
      by_cases h3 : c.toNat = 0 ∧ 0 < i
      · rw [if_pos h3] at h; simp at h
      · rw [if_neg h3]
        exact ⟨by simp, by simp, hb.1⟩
    · rw [if_neg h2] at h ⊢
      have hi : i < 9 := by
        rcases Nat.lt_or_ge i 9 with hi | hi
        · exact hi
        · exfalso; exact h1 ⟨by omega, by omega⟩
      have := takeGo_ok cs (i + 1) _ (by omega) (hb.2.2 hi) h
      simp only [List.length_cons]
      exact ⟨by omega, by omega, this.2.2⟩
theorem takeV_ok {l : List UInt8} (h : (takeV l).2.2 = 0) : (takeV l).2.1 ≤ l.length ∧ 0 < (takeV l).2.1 ∧ (takeV l).1 < 2 ^ 64 := by
  have := takeGo_ok l 0 0 (by omega) (by simp) h
  rw [Nat.zero_add] at this
  exact this
theorem takeV_small {c : UInt8} {l : List UInt8} (h : c.toNat < 128) : takeV (c :: l) = (c.toNat, 1, 0) := by
  unfold takeV takeGo
  rw [if_neg (by omega), if_pos h, if_neg (by omega)]
  simp
  omega

theorem putV_step {n0 n : Nat} {out : List UInt8} (h : putV n0 = out ++ putV n) (hn : ¬ n < 128) : putV n0 = (out ++ [UInt8.ofNat (n % 128 + 128)]) ++ putV (n / 128) := by
  rw [h, putV_big hn, List.append_assoc]; rfl
theorem putV_last {n0 n : Nat} {out : List UInt8} (h : putV n0 = out ++ putV n) (hn : n < 128) : putV n0 = out ++ [UInt8.ofNat n] := by
  rw [h, putV_small hn]
theorem putV_room {n k : Nat} (hk : k ≤ 9) (hn : n < 2 ^ (64 - 7 * k)) (hb : 128 ≤ n) : k < 9 ∧ n / 128 < 2 ^ (64 - 7 * (k + 1)) := by
  have : k = 0 ∨ k = 1 ∨ k = 2 ∨ k = 3 ∨ k = 4 ∨ k = 5 ∨ k = 6 ∨ k = 7 ∨ k = 8 ∨ k = 9 := by omega
  rcases this with rfl | rfl | rfl | rfl | rfl | rfl | rfl | rfl | rfl | rfl <;> simp at hn ⊢ <;> omega
theorem putV_word {n k : Nat} (hk : k ≤ 9) (hn : n < 2 ^ (64 - 7 * k)) : n < 2 ^ 64 :=
  Nat.lt_of_lt_of_le hn (Nat.pow_le_pow_right (by omega) (by omega))

theorem putV_len' : ∀ (d k n : Nat), d + k = 9 → n < 2 ^ (64 - 7 * k) → (putV n).length + k ≤ 10
  | 0, k, n, hd, hn => by
    obtain rfl : k = 9 := by omega
    rw [putV_small (by simp at hn; omega)]
    simp
  | d + 1, k, n, hd, hn => by
    by_cases h : n < 128
    · rw [putV_small h]; simp; omega
    · obtain ⟨h1, h2⟩ := putV_room (by omega) hn (by omega)
      have := putV_len' d (k + 1) (n / 128) (by omega) h2
      rw [putV_big h]
      simp only [List.length_cons]
      omega
theorem putV_len {n : Nat} (h : n < 2 ^ 64) : (putV n).length ≤ 10 := putV_len' 9 0 n rfl (by simpa using h)

theorem takeText_ok {l : List UInt8} (h : (takeText l).2.2 = 0) : (takeText l).2.1 ≤ l.length ∧ (takeText l).1.length ≤ l.length := by
  unfold takeText at h ⊢
  by_cases h1 : (takeV l).2.2 ≠ 0
  · rw [if_pos h1] at h; exact absurd h h1
  rw [if_neg h1] at h ⊢
  by_cases h2 : 65536 < (takeV l).1
  · rw [if_pos h2] at h; simp at h
  rw [if_neg h2] at h ⊢
  by_cases h3 : l.length - (takeV l).2.1 < (takeV l).1
  · rw [if_pos h3] at h; simp at h
  rw [if_neg h3]
  have := takeV_ok (l := l) (by simpa using h1)
  simp only [cutL, List.length_drop, List.length_take]
  omega
end Go.Proofs.YtbmdoekfbkpaeaaGreatDoor

namespace Go.Proofs.YtbmdoekfbkpaeaaGreatDoor

theorem takeGo_put : ∀ (d i acc n : Nat) (rest : List UInt8), d + i = 9 → n < 2 ^ (64 - 7 * i) → ¬ (n = 0 ∧ 0 < i) → takeGo i acc (putV n ++ rest) = (acc + n * 2 ^ (7 * i), i + (putV n).length, 0)
  | d, i, acc, n, rest, hd, hn, hz => by
    by_cases h : n < 128
    · have hc : (UInt8.ofNat n).toNat = n := by simp; omega
      rw [putV_small h]
      simp only [List.cons_append, List.nil_append, List.length_singleton]
      rw [takeGo, hc, if_neg, if_pos h, if_neg hz, Nat.mod_eq_of_lt h]
      rintro ⟨rfl, h1⟩
      simp at hn
      omega
    · have hr := putV_room (n := n) (k := i) (by omega) hn (by omega)
      have hc : (UInt8.ofNat (n % 128 + 128)).toNat = n % 128 + 128 := by simp; omega
      rw [putV_big h]
      simp only [List.cons_append, List.length_cons]
      match d, hd with
      | 0, hd => omega
      | d + 1, hd =>
        rw [takeGo, hc, if_neg (by omega), if_neg (by omega), takeGo_put d (i + 1) _ (n / 128) rest (by omega) hr.2 (by omega)]
        have e1 : (n % 128 + 128) % 128 = n % 128 := by omega
        have e2 : 2 ^ (7 * (i + 1)) = 128 * 2 ^ (7 * i) := by rw [Nat.mul_add, Nat.mul_one, Nat.pow_add, Nat.mul_comm]
        rw [e1, e2]
        have e3 : n * 2 ^ (7 * i) = n % 128 * 2 ^ (7 * i) + n / 128 * (128 * 2 ^ (7 * i)) := by
          rw [← Nat.mul_assoc, ← Nat.add_mul]; congr 1; omega
        rw [e3]
        refine Prod.ext ?_ (Prod.ext ?_ rfl)
        · simp only; omega
        · simp only; omega
theorem takeV_put {n : Nat} (h : n < 2 ^ 64) (rest : List UInt8) : takeV (putV n ++ rest) = (n, (putV n).length, 0) := by
  unfold takeV
  rw [takeGo_put 9 0 0 n rest rfl (by simpa using h) (by omega)]
  simp
theorem takeText_put {t : List UInt8} (h : t.length ≤ 65536) (rest : List UInt8) : takeText (putText t ++ rest) = (t, (putText t).length, 0) := by
  have e : putText t = putV t.length ++ t := by unfold putText; rw [if_neg (by omega)]
  have h1 : takeV (putText t ++ rest) = (t.length, (putV t.length).length, 0) := by
    rw [e, List.append_assoc, takeV_put (by omega)]
  unfold takeText
  rw [h1]
  simp only
  rw [if_neg (by simp), if_neg (by omega), if_neg (by rw [e]; simp)]
  refine Prod.ext ?_ (Prod.ext ?_ rfl)
  · simp only [cutL]
    rw [e, List.append_assoc, List.take_append, List.take_of_length_le (by omega), List.drop_append, List.drop_eq_nil_of_le (by omega)]
    simp
  · simp only [e, List.length_append]
end Go.Proofs.YtbmdoekfbkpaeaaGreatDoor
