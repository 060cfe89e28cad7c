/- Disks, in plain words: files, what may be lost of them, bytes laid on a text. No program in sight. Sets of keys: plain. Rows that rise by a text: what stands ahead of it, behind it, at it. -/
import Derived.Test.YtbmdoekfbkpaeaaGreatDoorJPlain
import Derived.Test.YtbmdoekfbkpaeaaGreatDoorJRowG
import Derived.Test.YtbmdoekfbkpaeaaGreatDoorJKeyNP
namespace Go.Proofs.YtbmdoekfbkpaeaaGreatDoor

/-- Bytes that may be lost: where they lie, and what they are. -/
abbrev Opn := Int × List UInt8
/-- A file: its name, what lasts, what may be lost. -/
abbrev LF := List UInt8 × List UInt8 × List Opn
/-- A disk: its files, whether its power is gone, how many acts are left. -/
abbrev LD := List LF × Bool × Int

def zerosL (n : Nat) : List UInt8 := List.replicate n 0
theorem zerosL_len (n : Nat) : (zerosL n).length = n := by simp [zerosL]
/-- Bytes laid on a text. -/
def layD (s : List UInt8) (k : Nat) (t : List UInt8) : List UInt8 := (s ++ zerosL (k - s.length)).take k ++ (t ++ s.drop (k + t.length))
def layO (s : List UInt8) (o : Opn) : List UInt8 := layD s o.1.toNat o.2
def seenL (s : List UInt8) (ops : List Opn) : List UInt8 := ops.foldl layO s

theorem layD_len (s : List UInt8) (k : Nat) (t : List UInt8) : (layD s k t).length = max s.length (k + t.length) := by
  simp [layD, zerosL]; omega
theorem layD_prog {s t : List UInt8} {k : Nat} (h : s.length < k + t.length) : (s ++ zerosL (k + t.length - s.length)).take k ++ (t ++ (s ++ zerosL (k + t.length - s.length)).drop (k + t.length)) = layD s k t := by
  unfold layD
  rw [List.drop_eq_nil_of_le (by simp [zerosL]; omega), List.drop_eq_nil_of_le (by omega)]
  congr 1
  rw [List.take_append, List.take_append]
  congr 1
  simp only [zerosL, List.take_replicate]
  congr 1; omega
theorem layD_in {s t : List UInt8} {k : Nat} (h : k ≤ s.length) : s.take k ++ (t ++ s.drop (k + t.length)) = layD s k t := by
  unfold layD
  rw [show k - s.length = 0 by omega]; simp [zerosL]
theorem layD_end {s t : List UInt8} {k : Nat} (h : s.length ≤ k + t.length) (h2 : k ≤ s.length) : s.take k ++ t = layD s k t := by
  rw [← layD_in h2, List.drop_eq_nil_of_le h, List.append_nil]
theorem layD_pad {s t : List UInt8} {k : Nat} (h : s.length < k) : (s ++ zerosL (k - s.length)).take k ++ t = layD s k t := by
  unfold layD
  rw [List.drop_eq_nil_of_le (by omega), List.append_nil]

def badO (o : Opn) : Bool := decide (o.1 < 0) || (decide (262144 < o.1) || (o.2.isEmpty || decide ((262144 : Int) - o.1 < o.2.length)))
def badF (f : LF) : Bool := !nameB f.1 || (decide (200 < f.2.2.length) || (decide (262144 < f.2.1.length) || f.2.2.any badO))
/-- Texts that go up. -/
def upN : List (List UInt8) → Bool
  | a :: b :: t => decide (a < b) && upN (b :: t)
  | _ => true
def headBad (n : Nat) (off : Bool) (fuse : Int) : Bool := decide (8 < n) || (decide (fuse < -1) || (decide (1048576 < fuse) || (off && fuse != -1)))
def fitD (d : LD) : Bool := !headBad d.1.length d.2.1 d.2.2 && (upN (d.1.map (·.1)) && !d.1.any badF)

theorem upN_append : ∀ (l : List (List UInt8)) (a b : List UInt8), upN (l ++ [a, b]) = (upN (l ++ [a]) && decide (a < b))
  | [], a, b => by simp [upN]
  | [c], a, b => by simp [upN]
  | c :: d :: t, a, b => by
    have := upN_append (d :: t) a b
    simp only [List.cons_append, upN] at this ⊢
    rw [this, Bool.and_assoc]
theorem upN_step {l : List (List UInt8)} {k : Nat} (h : k + 1 < l.length) : upN (l.take (k + 2)) = (upN (l.take (k + 1)) && decide (l[k] < l[k + 1])) := by
  rw [List.take_succ_eq_append_getElem h, List.take_succ_eq_append_getElem (show k < l.length by omega), List.append_assoc]
  exact upN_append _ _ _
theorem upN_take : ∀ (l : List (List UInt8)) (k : Nat), upN l = true → upN (l.take k) = true
  | [], k, _ => by simp [upN]
  | [a], 0, _ => rfl
  | [a], k + 1, _ => by simp [upN]
  | a :: b :: t, 0, _ => rfl
  | a :: b :: t, 1, _ => by simp [upN]
  | a :: b :: t, k + 2, h => by
    simp only [upN, Bool.and_eq_true] at h
    have := upN_take (b :: t) (k + 1) h.2
    simp only [List.take_succ_cons, upN, Bool.and_eq_true] at this ⊢
    exact ⟨h.1, this⟩
theorem upN_pairs : ∀ (l : List (List UInt8)), upN l = true → l.Pairwise (· < ·)
  | [], _ => List.Pairwise.nil
  | [a], _ => by simp
  | a :: b :: t, h => by
    simp only [upN, Bool.and_eq_true, decide_eq_true_eq] at h
    have ih := upN_pairs (b :: t) h.2
    refine List.Pairwise.cons ?_ ih
    intro c hc
    rcases List.mem_cons.1 hc with rfl | hc
    · exact h.1
    · exact List.lt_trans h.1 (List.rel_of_pairwise_cons ih hc)
theorem upN_of_pairs : ∀ (l : List (List UInt8)), l.Pairwise (· < ·) → upN l = true
  | [], _ => rfl
  | [a], _ => rfl
  | a :: b :: t, h => by
    simp only [upN, Bool.and_eq_true, decide_eq_true_eq]
    exact ⟨List.rel_of_pairwise_cons h (by simp), upN_of_pairs (b :: t) (List.Pairwise.of_cons h)⟩

section
variable {α : Type} (key : α → List UInt8)
/-- The row with f in the place of the one of its name. -/
def withK (l : List α) (f : α) : List α := l.filter (fun y => decide (key y < key f)) ++ f :: l.filter (fun y => decide (key f < key y))
def withoutK (l : List α) (n : List UInt8) : List α := l.filter (fun y => !(key y == n))
theorem withK_map {β : Type} {key' : β → List UInt8} {g : α → β} (hg : ∀ x, key x = key' (g x)) (l : List α) (f : α) : (withK key l f).map g = withK key' (l.map g) (g f) := by
  simp only [withK, List.map_append, List.map_cons, List.filter_map, Function.comp_def, hg]
theorem withoutK_map {β : Type} {key' : β → List UInt8} {g : α → β} (hg : ∀ x, key x = key' (g x)) (l : List α) (n : List UInt8) : (withoutK key l n).map g = withoutK key' (l.map g) n := by
  simp only [withoutK, List.filter_map, Function.comp_def, hg]
end

def findF (fs : List LF) (n : List UInt8) : Option LF := fs.find? (fun f => f.1 == n)
def withF (fs : List LF) (f : LF) : List LF := withK (·.1) fs f
def withoutF (fs : List LF) (n : List UInt8) : List LF := withoutK (·.1) fs n

def readD (d : LD) (n : List UInt8) : List UInt8 × Bool := match findF d.1 n with
  | some f => (seenL f.2.1 f.2.2, true)
  | none => ([], false)
/-- An act may go on, or the power is lost. -/
def powerD (d : LD) : LD × Int := if d.2.2 = 0 then ((d.1, true, -1), 13) else ((d.1, d.2.1, if 0 < d.2.2 then d.2.2 - 1 else d.2.2), 0)
/-- What an act comes to, if it is wrong, or else does something to the files. -/
def actD (d : LD) (wrong : Int) (fs : List LF) : LD × Int :=
  if d.2.1 = true then (d, 13) else if wrong ≠ 0 then (d, wrong) else if d.2.2 = 0 then ((d.1, true, -1), 13) else ((fs, d.2.1, if 0 < d.2.2 then d.2.2 - 1 else d.2.2), 0)
def fileOf (d : LD) (n : List UInt8) : LF := (findF d.1 n).getD (n, [], [])
def wrongW (d : LD) (n : List UInt8) (k : Int) (s : List UInt8) : Int :=
  if nameB n = false then 7 else if k < 0 ∨ 262144 < k ∨ 262144 - k < (s.length : Int) then 4
  else if ((findF d.1 n).isNone = true ∧ 8 ≤ d.1.length) ∨ (s ≠ [] ∧ 200 ≤ (fileOf d n).2.2.length) then 9 else 0
def putOps (f : LF) (k : Int) (s : List UInt8) : LF := if s = [] then f else (f.1, f.2.1, f.2.2 ++ [(k, s)])
def writeD (d : LD) (n : List UInt8) (k : Int) (s : List UInt8) : LD × Int := actD d (wrongW d n k s) (withF d.1 (putOps (fileOf d n) k s))
def wrongN (d : LD) (n : List UInt8) : Int := if (findF d.1 n).isNone = true then 5 else 0
def syncD (d : LD) (n : List UInt8) : LD × Int := actD d (wrongN d n) (withF d.1 (n, (readD d n).1, []))
def renameD (d : LD) (n m : List UInt8) : LD × Int := actD d (if nameB m = false then 7 else wrongN d n) (withF (withoutF d.1 n) (m, (fileOf d n).2))
def removeD (d : LD) (n : List UInt8) : LD × Int := actD d (wrongN d n) (withoutF d.1 n)

/-- What is seen behind a loss of power, of a file. -/
def layKeep (s : List UInt8) : List Opn → List Bool → List UInt8
  | [], _ => s
  | o :: os, ks => layKeep (if ks.headD false then layO s o else s) os ks.tail
def crashL : List LF → List Bool → List LF
  | [], _ => []
  | f :: fs, ks => (f.1, layKeep f.2.1 f.2.2 ks, []) :: crashL fs (ks.drop f.2.2.length)
def crashD (d : LD) (ks : List Bool) : LD := (crashL d.1 ks, false, -1)

theorem badO_iff (o : Opn) : badO o = false ↔ 0 ≤ o.1 ∧ o.1 ≤ 262144 ∧ o.2 ≠ [] ∧ (o.2.length : Int) ≤ 262144 - o.1 := by
  simp [badO]
theorem badF_iff (f : LF) : badF f = false ↔ nameB f.1 = true ∧ f.2.2.length ≤ 200 ∧ f.2.1.length ≤ 262144 ∧ ∀ o ∈ f.2.2, badO o = false := by
  simp [badF]
theorem seenL_step {s : List UInt8} {ops : List Opn} {k : Nat} (h : k < ops.length) : seenL s (ops.take (k + 1)) = layO (seenL s (ops.take k)) ops[k] := by
  unfold seenL; rw [List.take_succ_eq_append_getElem h, List.foldl_append]; rfl
theorem layO_len {s : List UInt8} {o : Opn} (hs : s.length ≤ 262144) (ho : badO o = false) : (layO s o).length ≤ 262144 := by
  obtain ⟨h1, h2, _, h3⟩ := (badO_iff o).1 ho
  unfold layO; rw [layD_len]; omega
theorem seenL_len : ∀ {ops : List Opn} {s : List UInt8}, s.length ≤ 262144 → (∀ o ∈ ops, badO o = false) → (seenL s ops).length ≤ 262144
  | [], s, hs, _ => hs
  | o :: ops, s, hs, h => seenL_len (ops := ops) (s := layO s o) (layO_len hs (h o (by simp))) (fun x hx => h x (by simp [hx]))
end Go.Proofs.YtbmdoekfbkpaeaaGreatDoor

namespace Go.Proofs.YtbmdoekfbkpaeaaGreatDoor
open Go.RowKit

/-- Keys that can be a set. -/
def fit5 (l : List (List UInt8)) : Bool := l.all (fun x => x.length == 32) && upN l
theorem str_cell {w : World} {b o : Nat} {xs : List (List UInt8)} (h : ∀ j x, xs[j]? = some x → w.cell? ⟨b, o + j, none⟩ = some (S x)) {j : Nat} (hj : j < xs.length) : w.cell? ⟨b, o + j, none⟩ = some (S xs[j]) := h j xs[j] (by simp [hj])

theorem fit5_bad {l : List (List UInt8)} {k : Nat} (h : k < l.length) (hb : l[k].length ≠ 32) : fit5 l = false := by
  unfold fit5
  rw [Bool.and_eq_false_iff]
  left
  rw [List.all_eq_false]
  exact ⟨l[k], by simp, by simpa using hb⟩
theorem fit5_down {l : List (List UInt8)} {j : Nat} (h : j + 1 < l.length) (hb : ¬ l[j] < l[j + 1]) : fit5 l = false := by
  unfold fit5
  rw [Bool.and_eq_false_iff]
  right
  cases hu : upN l with
  | false => rfl
  | true =>
    have h1 := upN_take l (j + 2) hu
    rw [upN_step h] at h1
    simp [hb] at h1
theorem fit5_one (l : List (List UInt8)) : upN (l.take 1) = true := by
  cases l with
  | nil => rfl
  | cons a t => simp [upN]
theorem fit5_all {l : List (List UInt8)} (h : ∀ x ∈ l, x.length = 32) (hu : upN l = true) : fit5 l = true := by
  unfold fit5
  rw [Bool.and_eq_true]
  exact ⟨List.all_eq_true.2 (fun x hx => by simpa using h x hx), hu⟩
theorem all32_step {l : List (List UInt8)} {k : Nat} (h : k < l.length) (ha : ∀ x ∈ l.take k, x.length = 32) (hb : l[k].length = 32) : ∀ x ∈ l.take (k + 1), x.length = 32 := by
  intro x hx
  rw [List.take_succ_eq_append_getElem h, List.mem_append] at hx
  rcases hx with hx | hx
  · exact ha x hx
  · simp only [List.mem_singleton] at hx; rw [hx]; exact hb
end Go.Proofs.YtbmdoekfbkpaeaaGreatDoor

namespace Go.Proofs.YtbmdoekfbkpaeaaGreatDoor

section
variable {α : Type} {key : α → List UInt8} {n : List UInt8}
theorem posL_cons_lt {x : α} {xs : List α} (h : key x < n) : posL ((x :: xs).map key) n = posL (xs.map key) n + 1 := by
  unfold posL; rw [List.map_cons, List.takeWhile_cons_of_pos (by simpa using h)]; rfl
theorem posL_cons_ge {x : α} {xs : List α} (h : ¬ key x < n) : posL ((x :: xs).map key) n = 0 := by
  unfold posL; rw [List.map_cons, List.takeWhile_cons_of_neg (by simpa using h)]; rfl
theorem up_tail {x : α} {xs : List α} (hu : upS ((x :: xs).map key)) : upS (xs.map key) ∧ ∀ y ∈ xs, key x < key y := by
  unfold upS at *
  rw [List.map_cons, List.pairwise_cons] at hu
  exact ⟨hu.2, fun y hy => hu.1 _ (List.mem_map_of_mem hy)⟩
theorem filt_lt : ∀ {l : List α}, upS (l.map key) → l.filter (fun y => decide (key y < n)) = l.take (posL (l.map key) n)
  | [], _ => by simp
  | x :: xs, hu => by
    obtain ⟨h1, h2⟩ := up_tail hu
    by_cases hx : key x < n
    · rw [posL_cons_lt hx, List.take_succ_cons, List.filter_cons_of_pos (by simpa using hx), filt_lt h1]
    · rw [posL_cons_ge hx, List.take_zero, List.filter_eq_nil_iff]
      intro y hy
      simp only [decide_eq_true_eq]
      rcases List.mem_cons.1 hy with rfl | hy
      · exact hx
      · exact fun h => hx (List.lt_trans (h2 y hy) h)
theorem filt_gt : ∀ {l : List α}, upS (l.map key) → l.filter (fun y => decide (n < key y)) = if n ∈ l.map key then l.drop (posL (l.map key) n + 1) else l.drop (posL (l.map key) n)
  | [], _ => by simp
  | x :: xs, hu => by
    obtain ⟨h1, h2⟩ := up_tail hu
    have ih := filt_gt h1
    rcases lt_or_eq_or_gt (key x) n with hx | hx | hx
    · have hne : n ≠ key x := by rintro e; rw [← e] at hx; exact List.lt_irrefl _ hx
      rw [posL_cons_lt hx, List.filter_cons_of_neg (by simpa using not_lt_of hx), ih]
      by_cases hm : n ∈ xs.map key
      · rw [if_pos hm, if_pos (by rw [List.map_cons]; exact List.mem_cons_of_mem _ hm)]; rfl
      · rw [if_neg hm, if_neg (by rw [List.map_cons, List.mem_cons]; exact fun h => h.elim hne hm)]; rfl
    · have hge : ¬ key x < n := by rw [hx]; exact List.lt_irrefl _
      rw [posL_cons_ge hge, if_pos (by rw [List.map_cons, hx]; exact List.mem_cons_self), List.filter_cons_of_neg (by rw [hx]; simp [List.lt_irrefl n])]
      show _ = xs
      rw [List.filter_eq_self]
      intro y hy
      have := h2 y hy
      rw [hx] at this
      simpa using this
    · have hge : ¬ key x < n := not_lt_of hx
      have hm : n ∉ (x :: xs).map key := by
        rw [List.mem_map]
        rintro ⟨y, hy, rfl⟩
        rcases List.mem_cons.1 hy with rfl | hy
        · exact List.lt_irrefl _ hx
        · exact List.lt_irrefl _ (List.lt_trans hx (h2 y hy))
      rw [posL_cons_ge hge, if_neg hm]
      show _ = x :: xs
      rw [List.filter_eq_self]
      intro y hy
      rcases List.mem_cons.1 hy with rfl | hy
      · simpa using hx
      · simpa using List.lt_trans hx (h2 y hy)
theorem filt_ne : ∀ {l : List α}, upS (l.map key) → l.filter (fun y => !(key y == n)) = l.filter (fun y => decide (key y < n)) ++ l.filter (fun y => decide (n < key y))
  | [], _ => by simp
  | x :: xs, hu => by
    obtain ⟨h1, h2⟩ := up_tail hu
    have ih := filt_ne h1
    rcases lt_or_eq_or_gt (key x) n with hx | hx | hx
    · rw [List.filter_cons_of_pos (by simpa using (beq_of_lt hx).1), ih, List.filter_cons_of_pos (p := fun y => decide (key y < n)) (by simpa using hx), List.filter_cons_of_neg (p := fun y => decide (n < key y)) (by simpa using not_lt_of hx)]
      rfl
    · rw [List.filter_cons_of_neg (by simp [hx]), ih, List.filter_cons_of_neg (p := fun y => decide (key y < n)) (by rw [hx]; simp [List.lt_irrefl n]), List.filter_cons_of_neg (p := fun y => decide (n < key y)) (by rw [hx]; simp [List.lt_irrefl n])]
    · have e : xs.filter (fun y => decide (key y < n)) = [] := by
        rw [List.filter_eq_nil_iff]; intro y hy; simpa using not_lt_of (List.lt_trans hx (h2 y hy))
      rw [List.filter_cons_of_pos (by simpa using (beq_of_lt hx).2), ih, e, List.filter_cons_of_neg (p := fun y => decide (key y < n)) (by simpa using not_lt_of hx), e, List.filter_cons_of_pos (p := fun y => decide (n < key y)) (by simpa using hx)]
      rfl
theorem withK_up {l : List α} {f : α} (hu : upS (l.map key)) : withK key l f = l.take (posL (l.map key) (key f)) ++ f :: (if key f ∈ l.map key then l.drop (posL (l.map key) (key f) + 1) else l.drop (posL (l.map key) (key f))) := by
  unfold withK; rw [filt_lt hu, filt_gt hu]
theorem withoutK_up {l : List α} (hu : upS (l.map key)) : withoutK key l n = l.take (posL (l.map key) n) ++ (if n ∈ l.map key then l.drop (posL (l.map key) n + 1) else l.drop (posL (l.map key) n)) := by
  unfold withoutK; rw [filt_ne hu, filt_lt hu, filt_gt hu]
theorem pos_lt {l : List α} (hu : upS (l.map key)) (h : n ∈ l.map key) : ∃ hk : posL (l.map key) n < l.length, key l[posL (l.map key) n] = n := by
  have h1 := (mem_at_pos hu).1 h
  have hlt : posL (l.map key) n < l.length := by
    have := (List.getElem?_eq_some_iff.1 h1).1; simpa using this
  refine ⟨hlt, ?_⟩
  rw [List.getElem?_eq_getElem (by simpa using hlt), Option.some.injEq] at h1
  simpa using h1
theorem find_up {l : List α} (hu : upS (l.map key)) (h : n ∈ l.map key) : ∃ hk : posL (l.map key) n < l.length, l.find? (fun y => key y == n) = some l[posL (l.map key) n] := by
  obtain ⟨hk, he⟩ := pos_lt hu h
  refine ⟨hk, ?_⟩
  have e : l = l.take (posL (l.map key) n) ++ l[posL (l.map key) n] :: l.drop (posL (l.map key) n + 1) := by simp
  have hn : (l.take (posL (l.map key) n)).find? (fun y => key y == n) = none := by
    rw [← filt_lt hu, List.find?_eq_none]
    intro y hy
    rw [List.mem_filter] at hy
    have := beq_of_lt (show key y < n by simpa using hy.2)
    simpa using this.1
  generalize posL (l.map key) n = k at *
  generalize hy : l[k] = y at *
  rw [e, List.find?_append, hn]
  simp [he]
theorem find_none {l : List α} (h : n ∉ l.map key) : l.find? (fun y => key y == n) = none := by
  rw [List.find?_eq_none]
  intro y hy
  simp only [beq_iff_eq]
  rintro rfl
  exact h (List.mem_map_of_mem hy)
theorem withK_up' {l : List α} {f : α} (hu : upS (l.map key)) : upS ((withK key l f).map key) := by
  unfold upS withK at *
  rw [List.map_append, List.map_cons, List.pairwise_append, List.pairwise_cons]
  have hs1 : (l.filter (fun y => decide (key y < key f))).Sublist l := List.filter_sublist
  have hs2 : (l.filter (fun y => decide (key f < key y))).Sublist l := List.filter_sublist
  refine ⟨hu.sublist (hs1.map key), ⟨?_, hu.sublist (hs2.map key)⟩, ?_⟩
  · intro a ha
    obtain ⟨y, hy, rfl⟩ := List.mem_map.1 ha
    rw [List.mem_filter] at hy
    simpa using hy.2
  · intro a ha b hb
    obtain ⟨y, hy, rfl⟩ := List.mem_map.1 ha
    rw [List.mem_filter] at hy
    have h1 : key y < key f := by simpa using hy.2
    rcases List.mem_cons.1 hb with rfl | hb
    · exact h1
    · obtain ⟨z, hz, rfl⟩ := List.mem_map.1 hb
      rw [List.mem_filter] at hz
      exact List.lt_trans h1 (by simpa using hz.2)
theorem withoutK_up' {l : List α} (hu : upS (l.map key)) : upS ((withoutK key l n).map key) := by
  have hs1 : (l.filter (fun y => !(key y == n))).Sublist l := List.filter_sublist
  exact List.Pairwise.sublist (hs1.map key) hu
end
end Go.Proofs.YtbmdoekfbkpaeaaGreatDoor
