/- Rolling hashes, and where texts are cut by them: plain. Disks, in plain words: files, what may be lost of them, bytes laid on a text. No program in sight. -/
import Derived.Test.YtkejdbidomlonaaGreatDoorJPlain
import Derived.Laws.BitsAllLaws
import Derived.Lib.BitFns
import Derived.Test.YtkejdbidomlonaaGreatDoorJKeyNP
namespace Go.Proofs.YtkejdbidomlonaaGreatDoor
open Go.RowKit

def mixG (m d t : Int) : Int := IntKind.u64.wrap (bits .xor .u64 m (m / d) * t)
/-- what a byte adds. -/
def tabG (b : UInt8) : Int := mixG (mixG (mixG (IntKind.u64.wrap (IntKind.u64.wrap (IntKind.u64.wrap ((b.toNat : Nat) : Int) + 1) * 11400714819323198485)) 1073741824 13787848793156543929) 134217728 10723151780598845931) 2147483648 1
def rollG (h : Int) (b : UInt8) : Int := IntKind.u64.wrap (IntKind.u64.wrap (h * 2) + tabG b)
theorem wrap64_range (x : Int) : 0 ≤ IntKind.u64.wrap x ∧ IntKind.u64.wrap x < 18446744073709551616 := by
  rw [IntKind.wrap_u64]; omega
theorem rollG_range (h : Int) (b : UInt8) : 0 ≤ rollG h b ∧ rollG h b < 18446744073709551616 := wrap64_range _

theorem bitLenAux_le : ∀ (f x n : Nat), x < 2 ^ f → (Lib.bitLenAux f x ≤ n ↔ x < 2 ^ n)
  | 0, x, n, h => by
    have : x = 0 := by simpa using h
    subst this
    simp [Lib.bitLenAux, Nat.two_pow_pos]
  | f + 1, x, n, h => by
    unfold Lib.bitLenAux
    by_cases h0 : x = 0
    · subst h0; simp [Nat.two_pow_pos]
    · rw [if_neg h0]
      have ih := bitLenAux_le f (x / 2) (n - 1) (by rw [Nat.pow_succ] at h; omega)
      cases n with
      | zero => simp; omega
      | succ n =>
        rw [show n + 1 - 1 = n from rfl] at ih
        rw [Nat.pow_succ]
        omega
theorem bitLen_le {x n : Nat} (h : x < 18446744073709551616) : Lib.bitLen x ≤ n ↔ x < 2 ^ n := bitLenAux_le 64 x n h

/-- Is a place behind a byte one to cut at? -/
def cutB (k i : Nat) (h : Int) : Bool := if i < 2 ^ k then decide (h < 2 ^ (63 - k)) else decide (h < 2 ^ (65 - k))
def goC (k : Nat) : Nat → Int → List UInt8 → Nat
  | i, _, [] => i
  | i, h, c :: t => if cutB k i (rollG h c) = true then i + 1 else goC k (i + 1) (rollG h c) t
/-- How many bytes the first piece has. -/
def cutC (x k z : Nat) (s : List UInt8) : Nat := if s.length ≤ x then s.length else goC k x 0 ((s.take z).drop x)
def piecesF (x k z : Nat) : Nat → List UInt8 → List (List UInt8)
  | 0, _ => []
  | n + 1, s => if s = [] then [] else s.take (cutC x k z s) :: piecesF x k z n (s.drop (cutC x k z s))
def piecesC (x k z : Nat) (s : List UInt8) : List (List UInt8) := piecesF x k z s.length s
/-- Fit parameters, as numbers. -/
structure FitC (x k z : Nat) : Prop where
  x1 : 1 ≤ x
  k1 : 1 ≤ k
  k12 : k ≤ 12
  xy : x ≤ 2 ^ k
  yz : 2 ^ k ≤ z
  z4 : z ≤ 4096

theorem goC_le (k : Nat) : ∀ (l : List UInt8) (i : Nat) (h : Int), i ≤ goC k i h l ∧ goC k i h l ≤ i + l.length
  | [], i, h => by simp [goC]
  | c :: t, i, h => by
    unfold goC
    split
    · rw [List.length_cons]; omega
    · have := goC_le k t (i + 1) (rollG h c)
      rw [List.length_cons]; omega
theorem goC_at {k i j : Nat} {h : Int} {l : List UInt8} (hj : j < l.length) : goC k i h (l.drop j) = if cutB k i (rollG h l[j]) = true then i + 1 else goC k (i + 1) (rollG h l[j]) (l.drop (j + 1)) := by
  rw [List.drop_eq_getElem_cons hj]; rfl
theorem goC_end {k i j : Nat} {h : Int} {l : List UInt8} (hj : l.length ≤ j) : goC k i h (l.drop j) = i := by
  rw [List.drop_eq_nil_of_le hj]; rfl
section
variable {x k z : Nat} {s : List UInt8}
theorem cutC_le : cutC x k z s ≤ s.length := by
  unfold cutC
  split
  · exact Nat.le_refl _
  · have := (goC_le k ((s.take z).drop x) x 0).2
    rw [List.length_drop, List.length_take] at this
    omega
theorem cutC_max (hf : FitC x k z) : cutC x k z s ≤ z := by
  have h1 := hf.xy
  have h2 := hf.yz
  unfold cutC
  split
  · omega
  · have := (goC_le k ((s.take z).drop x) x 0).2
    rw [List.length_drop, List.length_take] at this
    omega
theorem cutC_pos (hf : FitC x k z) (hs : s ≠ []) : 1 ≤ cutC x k z s := by
  have h1 := hf.x1
  unfold cutC
  split
  · exact List.length_pos_iff.2 hs
  · have := (goC_le k ((s.take z).drop x) x 0).1
    omega
theorem piecesF_more (hf : FitC x k z) : ∀ (n m : Nat) (s : List UInt8), s.length ≤ n → s.length ≤ m → piecesF x k z n s = piecesF x k z m s
  | 0, m, s, h1, _ => by
    obtain rfl : s = [] := List.length_eq_zero_iff.1 (by omega)
    cases m <;> simp [piecesF]
  | n + 1, 0, s, _, h2 => by
    obtain rfl : s = [] := List.length_eq_zero_iff.1 (by omega)
    simp [piecesF]
  | n + 1, m + 1, s, h1, h2 => by
    unfold piecesF
    by_cases hs : s = []
    · rw [if_pos hs, if_pos hs]
    · have hp := cutC_pos hf hs
      rw [if_neg hs, if_neg hs, piecesF_more hf n m _ (by rw [List.length_drop]; omega) (by rw [List.length_drop]; omega)]
theorem piecesC_nil : piecesC x k z [] = [] := rfl
theorem piecesC_cons (hf : FitC x k z) (hs : s ≠ []) : piecesC x k z s = s.take (cutC x k z s) :: piecesC x k z (s.drop (cutC x k z s)) := by
  have hp := cutC_pos hf hs
  have h1 : 0 < s.length := List.length_pos_iff.2 hs
  obtain ⟨n, hn⟩ : ∃ n, s.length = n + 1 := ⟨s.length - 1, by omega⟩
  unfold piecesC
  rw [hn, piecesF, if_neg hs, piecesF_more hf n (s.drop (cutC x k z s)).length _ (by rw [List.length_drop]; omega) (Nat.le_refl _)]
theorem piecesF_all (hf : FitC x k z) : ∀ (n : Nat) (s : List UInt8), s.length ≤ n → (piecesF x k z n s).flatten = s ∧ (∀ t ∈ piecesF x k z n s, 1 ≤ t.length ∧ t.length ≤ 4096) ∧ (piecesF x k z n s).length ≤ s.length
  | 0, s, h => by
    obtain rfl : s = [] := List.length_eq_zero_iff.1 (by omega)
    simp [piecesF]
  | n + 1, s, h => by
    unfold piecesF
    by_cases hs : s = []
    · subst hs; simp
    · have hp := cutC_pos hf hs
      have hm := cutC_max (s := s) hf
      have hl : cutC x k z s ≤ s.length := cutC_le
      have hz := hf.z4
      obtain ⟨h1, h2, h3⟩ := piecesF_all hf n (s.drop (cutC x k z s)) (by rw [List.length_drop]; omega)
      rw [if_neg hs]
      refine ⟨by rw [List.flatten_cons, h1, List.take_append_drop], fun t ht => ?_, by rw [List.length_cons]; rw [List.length_drop] at h3; omega⟩
      rcases List.mem_cons.1 ht with rfl | ht
      · rw [List.length_take]; omega
      · exact h2 t ht
theorem piecesC_flat (hf : FitC x k z) : (piecesC x k z s).flatten = s := (piecesF_all hf _ s (Nat.le_refl _)).1
theorem piecesC_each (hf : FitC x k z) : ∀ t ∈ piecesC x k z s, 1 ≤ t.length ∧ t.length ≤ 4096 := (piecesF_all hf _ s (Nat.le_refl _)).2.1
theorem piecesC_len (hf : FitC x k z) : (piecesC x k z s).length ≤ s.length := (piecesF_all hf _ s (Nat.le_refl _)).2.2
end

/-! The program's words for the same. -/
/-- The number of zeros ahead of a hash. -/
theorem zeros_le {h : Int} {n : Nat} (h0 : 0 ≤ h) (h1 : h < 18446744073709551616) (hn : n ≤ 64) : ((n : Int) ≤ 64 - (Lib.bitLen h.toNat : Int)) ↔ h < 2 ^ (64 - n) := by
  have h2 := bitLen_le (x := h.toNat) (n := 64 - n) (by omega)
  have h3 : h < 2 ^ (64 - n) ↔ h.toNat < 2 ^ (64 - n) := by
    have : ((2 ^ (64 - n) : Nat) : Int) = (2 : Int) ^ (64 - n) := by rw [Int.natCast_pow]; rfl
    rw [← this]; omega
  rw [h3, ← h2]; omega
theorem cutB_lo {k i : Nat} {h : Int} (hk : k ≤ 12) (h0 : 0 ≤ h) (h1 : h < 18446744073709551616) (hi : i < 2 ^ k) : cutB k i h = !decide (64 - (Lib.bitLen h.toNat : Int) ≤ (k : Int)) := by
  have := zeros_le (n := k + 1) h0 h1 (by omega)
  unfold cutB
  rw [if_pos hi, Bool.eq_iff_iff]
  rw [show 64 - (k + 1) = 63 - k by omega] at this
  simp only [decide_eq_true_eq, Bool.not_eq_true', decide_eq_false_iff_not]
  rw [← this]; omega
theorem cutB_hi {k i : Nat} {h : Int} (hk1 : 1 ≤ k) (hk : k ≤ 12) (h0 : 0 ≤ h) (h1 : h < 18446744073709551616) (hi : ¬ i < 2 ^ k) : cutB k i h = !decide (64 - (Lib.bitLen h.toNat : Int) < (k : Int) - 1) := by
  have := zeros_le (n := k - 1) h0 h1 (by omega)
  unfold cutB
  rw [if_neg hi, Bool.eq_iff_iff]
  rw [show 64 - (k - 1) = 65 - k by omega] at this
  simp only [decide_eq_true_eq, Bool.not_eq_true', decide_eq_false_iff_not]
  rw [← this]; omega
end Go.Proofs.YtkejdbidomlonaaGreatDoor

namespace Go.Proofs.YtkejdbidomlonaaGreatDoor

/-- Bytes that may be lost: where they lie, and what they are. -/
abbrev Opn := Int × List UInt8
/-- A file: its name, what lasts, what may be lost. -/
abbrev LF := List UInt8 × List UInt8 × List Opn
/-- A disk: its files, whether its power is gone, how many acts are left. -/
abbrev LD := List LF × Bool × Int

def zerosL (n : Nat) : List UInt8 := List.replicate n 0
theorem zerosL_len (n : Nat) : (zerosL n).length = n := by simp [zerosL]
/-- Bytes laid on a text. -/
def layD (s : List UInt8) (k : Nat) (t : List UInt8) : List UInt8 := (s ++ zerosL (k - s.length)).take k ++ (t ++ s.drop (k + t.length))
def layO (s : List UInt8) (o : Opn) : List UInt8 := layD s o.1.toNat o.2
def seenL (s : List UInt8) (ops : List Opn) : List UInt8 := ops.foldl layO s

theorem layD_len (s : List UInt8) (k : Nat) (t : List UInt8) : (layD s k t).length = max s.length (k + t.length) := by
  simp [layD, zerosL]; omega
theorem layD_prog {s t : List UInt8} {k : Nat} (h : s.length < k + t.length) : (s ++ zerosL (k + t.length - s.length)).take k ++ (t ++ (s ++ zerosL (k + t.length - s.length)).drop (k + t.length)) = layD s k t := by
  unfold layD
  rw [List.drop_eq_nil_of_le (by simp [zerosL]; omega), List.drop_eq_nil_of_le (by omega)]
  congr 1
  rw [List.take_append, List.take_append]
  congr 1
  simp only [zerosL, List.take_replicate]
  congr 1; omega
theorem layD_in {s t : List UInt8} {k : Nat} (h : k ≤ s.length) : s.take k ++ (t ++ s.drop (k + t.length)) = layD s k t := by
  unfold layD
  rw [show k - s.length = 0 by omega]; simp [zerosL]
theorem layD_end {s t : List UInt8} {k : Nat} (h : s.length ≤ k + t.length) (h2 : k ≤ s.length) : s.take k ++ t = layD s k t := by
  rw [← layD_in h2, List.drop_eq_nil_of_le h, List.append_nil]
theorem layD_pad {s t : List UInt8} {k : Nat} (h : s.length < k) : (s ++ zerosL (k - s.length)).take k ++ t = layD s k t := by
  unfold layD
  rw [List.drop_eq_nil_of_le (by omega), List.append_nil]

def badO (o : Opn) : Bool := decide (o.1 < 0) || (decide (262144 < o.1) || (o.2.isEmpty || decide ((262144 : Int) - o.1 < o.2.length)))
def badF (f : LF) : Bool := !nameB f.1 || (decide (200 < f.2.2.length) || (decide (262144 < f.2.1.length) || f.2.2.any badO))
/-- Texts that go up. -/
def upN : List (List UInt8) → Bool
  | a :: b :: t => decide (a < b) && upN (b :: t)
  | _ => true
def headBad (n : Nat) (off : Bool) (fuse : Int) : Bool := decide (8 < n) || (decide (fuse < -1) || (decide (1048576 < fuse) || (off && fuse != -1)))
def fitD (d : LD) : Bool := !headBad d.1.length d.2.1 d.2.2 && (upN (d.1.map (·.1)) && !d.1.any badF)

theorem upN_append : ∀ (l : List (List UInt8)) (a b : List UInt8), upN (l ++ [a, b]) = (upN (l ++ [a]) && decide (a < b))
  | [], a, b => by simp [upN]
  | [c], a, b => by simp [upN]
  | c :: d :: t, a, b => by
    have := upN_append (d :: t) a b
    simp only [List.cons_append, upN] at this ⊢
    rw [this, Bool.and_assoc]
theorem upN_step {l : List (List UInt8)} {k : Nat} (h : k + 1 < l.length) : upN (l.take (k + 2)) = (upN (l.take (k + 1)) && decide (l[k] < l[k + 1])) := by
  rw [List.take_succ_eq_append_getElem h, List.take_succ_eq_append_getElem (show k < l.length by omega), List.append_assoc]
  exact upN_append _ _ _
theorem upN_take : ∀ (l : List (List UInt8)) (k : Nat), upN l = true → upN (l.take k) = true
  | [], k, _ => by simp [upN]
  | [a], 0, _ => rfl
  | [a], k + 1, _ => by simp [upN]
  | a :: b :: t, 0, _ => rfl
  | a :: b :: t, 1, _ => by simp [upN]
  | a :: b :: t, k + 2, h => by
    simp only [upN, Bool.and_eq_true] at h
    have := upN_take (b :: t) (k + 1) h.2
    simp only [List.take_succ_cons, upN, Bool.and_eq_true] at this ⊢
    exact ⟨h.1, this⟩
theorem upN_pairs : ∀ (l : List (List UInt8)), upN l = true → l.Pairwise (· < ·)
  | [], _ => List.Pairwise.nil
  | [a], _ => by simp
  | a :: b :: t, h => by
    simp only [upN, Bool.and_eq_true, decide_eq_true_eq] at h
    have ih := upN_pairs (b :: t) h.2
    refine List.Pairwise.cons ?_ ih
    intro c hc
    rcases List.mem_cons.1 hc with rfl | hc
    · exact h.1
    · exact List.lt_trans h.1 (List.rel_of_pairwise_cons ih hc)
theorem upN_of_pairs : ∀ (l : List (List UInt8)), l.Pairwise (· < ·) → upN l = true
  | [], _ => rfl
  | [a], _ => rfl
  | a :: b :: t, h => by
    simp only [upN, Bool.and_eq_true, decide_eq_true_eq]
    exact ⟨List.rel_of_pairwise_cons h (by simp), upN_of_pairs (b :: t) (List.Pairwise.of_cons h)⟩

section
variable {α : Type} (key : α → List UInt8)
/-- The row with f in the place of the one of its name. -/
def withK (l : List α) (f : α) : List α := l.filter (fun y => decide (key y < key f)) ++ f :: l.filter (fun y => decide (key f < key y))
def withoutK (l : List α) (n : List UInt8) : List α := l.filter (fun y => !(key y == n))
theorem withK_map {β : Type} {key' : β → List UInt8} {g : α → β} (hg : ∀ x, key x = key' (g x)) (l : List α) (f : α) : (withK key l f).map g = withK key' (l.map g) (g f) := by
  simp only [withK, List.map_append, List.map_cons, List.filter_map, Function.comp_def, hg]
theorem withoutK_map {β : Type} {key' : β → List UInt8} {g : α → β} (hg : ∀ x, key x = key' (g x)) (l : List α) (n : List UInt8) : (withoutK key l n).map g = withoutK key' (l.map g) n := by
  simp only [withoutK, List.filter_map, Function.comp_def, hg]
end

def findF (fs : List LF) (n : List UInt8) : Option LF := fs.find? (fun f => f.1 == n)
def withF (fs : List LF) (f : LF) : List LF := withK (·.1) fs f
def withoutF (fs : List LF) (n : List UInt8) : List LF := withoutK (·.1) fs n

def readD (d : LD) (n : List UInt8) : List UInt8 × Bool := match findF d.1 n with
  | some f => (seenL f.2.1 f.2.2, true)
  | none => ([], false)
/-- An act may go on, or the power is lost. -/
def powerD (d : LD) : LD × Int := if d.2.2 = 0 then ((d.1, true, -1), 13) else ((d.1, d.2.1, if 0 < d.2.2 then d.2.2 - 1 else d.2.2), 0)
/-- What an act comes to, if it is wrong, or else does something to the files. -/
def actD (d : LD) (wrong : Int) (fs : List LF) : LD × Int :=
  if d.2.1 = true then (d, 13) else if wrong ≠ 0 then (d, wrong) else if d.2.2 = 0 then ((d.1, true, -1), 13) else ((fs, d.2.1, if 0 < d.2.2 then d.2.2 - 1 else d.2.2), 0)
def fileOf (d : LD) (n : List UInt8) : LF := (findF d.1 n).getD (n, [], [])
def wrongW (d : LD) (n : List UInt8) (k : Int) (s : List UInt8) : Int :=
  if nameB n = false then 7 else if k < 0 ∨ 262144 < k ∨ 262144 - k < (s.length : Int) then 4
  else if ((findF d.1 n).isNone = true ∧ 8 ≤ d.1.length) ∨ (s ≠ [] ∧ 200 ≤ (fileOf d n).2.2.length) then 9 else 0
def putOps (f : LF) (k : Int) (s : List UInt8) : LF := if s = [] then f else (f.1, f.2.1, f.2.2 ++ [(k, s)])
def writeD (d : LD) (n : List UInt8) (k : Int) (s : List UInt8) : LD × Int := actD d (wrongW d n k s) (withF d.1 (putOps (fileOf d n) k s))
def wrongN (d : LD) (n : List UInt8) : Int := if (findF d.1 n).isNone = true then 5 else 0
def syncD (d : LD) (n : List UInt8) : LD × Int := actD d (wrongN d n) (withF d.1 (n, (readD d n).1, []))
def renameD (d : LD) (n m : List UInt8) : LD × Int := actD d (if nameB m = false then 7 else wrongN d n) (withF (withoutF d.1 n) (m, (fileOf d n).2))
def removeD (d : LD) (n : List UInt8) : LD × Int := actD d (wrongN d n) (withoutF d.1 n)

/-- What is seen behind a loss of power, of a file. -/
def layKeep (s : List UInt8) : List Opn → List Bool → List UInt8
  | [], _ => s
  | o :: os, ks => layKeep (if ks.headD false then layO s o else s) os ks.tail
def crashL : List LF → List Bool → List LF
  | [], _ => []
  | f :: fs, ks => (f.1, layKeep f.2.1 f.2.2 ks, []) :: crashL fs (ks.drop f.2.2.length)
def crashD (d : LD) (ks : List Bool) : LD := (crashL d.1 ks, false, -1)

theorem badO_iff (o : Opn) : badO o = false ↔ 0 ≤ o.1 ∧ o.1 ≤ 262144 ∧ o.2 ≠ [] ∧ (o.2.length : Int) ≤ 262144 - o.1 := by
  simp [badO]
theorem badF_iff (f : LF) : badF f = false ↔ nameB f.1 = true ∧ f.2.2.length ≤ 200 ∧ f.2.1.length ≤ 262144 ∧ ∀ o ∈ f.2.2, badO o = false := by
  simp [badF]
theorem seenL_step {s : List UInt8} {ops : List Opn} {k : Nat} (h : k < ops.length) : seenL s (ops.take (k + 1)) = layO (seenL s (ops.take k)) ops[k] := by
  unfold seenL; rw [List.take_succ_eq_append_getElem h, List.foldl_append]; rfl
theorem layO_len {s : List UInt8} {o : Opn} (hs : s.length ≤ 262144) (ho : badO o = false) : (layO s o).length ≤ 262144 := by
  obtain ⟨h1, h2, _, h3⟩ := (badO_iff o).1 ho
  unfold layO; rw [layD_len]; omega
theorem seenL_len : ∀ {ops : List Opn} {s : List UInt8}, s.length ≤ 262144 → (∀ o ∈ ops, badO o = false) → (seenL s ops).length ≤ 262144
  | [], s, hs, _ => hs
  | o :: ops, s, hs, h => seenL_len (ops := ops) (s := layO s o) (layO_len hs (h o (by simp))) (fun x hx => h x (by simp [hx]))
end Go.Proofs.YtkejdbidomlonaaGreatDoor
