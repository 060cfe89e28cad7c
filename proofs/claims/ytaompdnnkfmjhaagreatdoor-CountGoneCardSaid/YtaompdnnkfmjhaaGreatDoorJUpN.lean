/- Texts that go up; a row with one in the place of another: plain. Sets of keys: plain. Rows that rise by a text: what stands ahead of it, behind it, at it. A row that rises, with one more: plain. A set and one more: plain. The reference Has of keys. The reference's sets of keys: a set and one more. -/
import Derived.Test.YtaompdnnkfmjhaaGreatDoorJNodePlain
import Derived.Test.YtaompdnnkfmjhaaGreatDoorJRowG
import Derived.Test.YtaompdnnkfmjhaaGreatDoorJPlain
namespace Go.Proofs.YtaompdnnkfmjhaaGreatDoor
/-- Texts that go up. -/
def upN : List (List UInt8) → Bool
  | a :: b :: t => decide (a < b) && upN (b :: t)
  | _ => true

theorem upN_append : ∀ (l : List (List UInt8)) (a b : List UInt8), upN (l ++ [a, b]) = (upN (l ++ [a]) && decide (a < b))
  | [], a, b => by simp [upN]
  | [c], a, b => by simp [upN]
  | c :: d :: t, a, b => by
    have := upN_append (d :: t) a b
    simp only [List.cons_append, upN] at this ⊢
    rw [this, Bool.and_assoc]
theorem upN_step {l : List (List UInt8)} {k : Nat} (h : k + 1 < l.length) : upN (l.take (k + 2)) = (upN (l.take (k + 1)) && decide (l[k] < l[k + 1])) := by
  rw [List.take_succ_eq_append_getElem h, List.take_succ_eq_append_getElem (show k < l.length by omega), List.append_assoc]
  exact upN_append _ _ _
theorem upN_take : ∀ (l : List (List UInt8)) (k : Nat), upN l = true → upN (l.take k) = true
  | [], k, _ => by simp [upN]
  | [a], 0, _ => rfl
  | [a], k + 1, _ => by simp [upN]
  | a :: b :: t, 0, _ => rfl
  | a :: b :: t, 1, _ => by simp [upN]
  | a :: b :: t, k + 2, h => by
    simp only [upN, Bool.and_eq_true] at h
    have := upN_take (b :: t) (k + 1) h.2
    simp only [List.take_succ_cons, upN, Bool.and_eq_true] at this ⊢
    exact ⟨h.1, this⟩
theorem upN_pairs : ∀ (l : List (List UInt8)), upN l = true → l.Pairwise (· < ·)
  | [], _ => List.Pairwise.nil
  | [a], _ => by simp
  | a :: b :: t, h => by
    simp only [upN, Bool.and_eq_true, decide_eq_true_eq] at h
    have ih := upN_pairs (b :: t) h.2
    refine List.Pairwise.cons ?_ ih
    intro c hc
    rcases List.mem_cons.1 hc with rfl | hc
    · exact h.1
    · exact List.lt_trans h.1 (List.rel_of_pairwise_cons ih hc)
theorem upN_of_pairs : ∀ (l : List (List UInt8)), l.Pairwise (· < ·) → upN l = true
  | [], _ => rfl
  | [a], _ => rfl
  | a :: b :: t, h => by
    simp only [upN, Bool.and_eq_true, decide_eq_true_eq]
    exact ⟨List.rel_of_pairwise_cons h (by simp), upN_of_pairs (b :: t) (List.Pairwise.of_cons h)⟩

section
variable {α : Type} (key : α → List UInt8)
/-- The row with f in the place of the one of its name. -/
def withK (l : List α) (f : α) : List α := l.filter (fun y => decide (key y < key f)) ++ f :: l.filter (fun y => decide (key f < key y))
def withoutK (l : List α) (n : List UInt8) : List α := l.filter (fun y => !(key y == n))
theorem withK_map {β : Type} {key' : β → List UInt8} {g : α → β} (hg : ∀ x, key x = key' (g x)) (l : List α) (f : α) : (withK key l f).map g = withK key' (l.map g) (g f) := by
  simp only [withK, List.map_append, List.map_cons, List.filter_map, Function.comp_def, hg]
theorem withoutK_map {β : Type} {key' : β → List UInt8} {g : α → β} (hg : ∀ x, key x = key' (g x)) (l : List α) (n : List UInt8) : (withoutK key l n).map g = withoutK key' (l.map g) n := by
  simp only [withoutK, List.filter_map, Function.comp_def, hg]
end
end Go.Proofs.YtaompdnnkfmjhaaGreatDoor

namespace Go.Proofs.YtaompdnnkfmjhaaGreatDoor
open Go.RowKit

/-- Keys that can be a set. -/
def fit5 (l : List (List UInt8)) : Bool := l.all (fun x => x.length == 32) && upN l
theorem str_cell {w : World} {b o : Nat} {xs : List (List UInt8)} (h : ∀ j x, xs[j]? = some x → w.cell? ⟨b, o + j, none⟩ = some (S x)) {j : Nat} (hj : j < xs.length) : w.cell? ⟨b, o + j, none⟩ = some (S xs[j]) := h j xs[j] (by simp [hj])

theorem fit5_bad {l : List (List UInt8)} {k : Nat} (h : k < l.length) (hb : l[k].length ≠ 32) : fit5 l = false := by
  unfold fit5
  rw [Bool.and_eq_false_iff]
  left
  rw [List.all_eq_false]
  exact ⟨l[k], by simp, by simpa using hb⟩
theorem fit5_down {l : List (List UInt8)} {j : Nat} (h : j + 1 < l.length) (hb : ¬ l[j] < l[j + 1]) : fit5 l = false := by
  unfold fit5
  rw [Bool.and_eq_false_iff]
  right
  cases hu : upN l with
  | false => rfl
  | true =>
    have h1 := upN_take l (j + 2) hu
    rw [upN_step h] at h1
    simp [hb] at h1
theorem fit5_one (l : List (List UInt8)) : upN (l.take 1) = true := by
  cases l with
  | nil => rfl
  | cons a t => simp [upN]
theorem fit5_all {l : List (List UInt8)} (h : ∀ x ∈ l, x.length = 32) (hu : upN l = true) : fit5 l = true := by
  unfold fit5
  rw [Bool.and_eq_true]
  exact ⟨List.all_eq_true.2 (fun x hx => by simpa using h x hx), hu⟩
theorem all32_step {l : List (List UInt8)} {k : Nat} (h : k < l.length) (ha : ∀ x ∈ l.take k, x.length = 32) (hb : l[k].length = 32) : ∀ x ∈ l.take (k + 1), x.length = 32 := by
  intro x hx
  rw [List.take_succ_eq_append_getElem h, List.mem_append] at hx
  rcases hx with hx | hx
  · exact ha x hx
  · simp only [List.mem_singleton] at hx; rw [hx]; exact hb
end Go.Proofs.YtaompdnnkfmjhaaGreatDoor

namespace Go.Proofs.YtaompdnnkfmjhaaGreatDoor

section
variable {α : Type} {key : α → List UInt8} {n : List UInt8}
theorem posL_cons_lt {x : α} {xs : List α} (h : key x < n) : posL ((x :: xs).map key) n = posL (xs.map key) n + 1 := by
  unfold posL; rw [List.map_cons, List.takeWhile_cons_of_pos (by simpa using h)]; rfl
theorem posL_cons_ge {x : α} {xs : List α} (h : ¬ key x < n) : posL ((x :: xs).map key) n = 0 := by
  unfold posL; rw [List.map_cons, List.takeWhile_cons_of_neg (by simpa using h)]; rfl
theorem up_tail {x : α} {xs : List α} (hu : upS ((x :: xs).map key)) : upS (xs.map key) ∧ ∀ y ∈ xs, key x < key y := by
  unfold upS at *
  rw [List.map_cons, List.pairwise_cons] at hu
  exact ⟨hu.2, fun y hy => hu.1 _ (List.mem_map_of_mem hy)⟩
theorem filt_lt : ∀ {l : List α}, upS (l.map key) → l.filter (fun y => decide (key y < n)) = l.take (posL (l.map key) n)
  | [], _ => by simp
  | x :: xs, hu => by
    obtain ⟨h1, h2⟩ := up_tail hu
    by_cases hx : key x < n
    · rw [posL_cons_lt hx, List.take_succ_cons, List.filter_cons_of_pos (by simpa using hx), filt_lt h1]
    · rw [posL_cons_ge hx, List.take_zero, List.filter_eq_nil_iff]
      intro y hy
      simp only [decide_eq_true_eq]
      rcases List.mem_cons.1 hy with rfl | hy
      · exact hx
      · exact fun h => hx (List.lt_trans (h2 y hy) h)
theorem filt_gt : ∀ {l : List α}, upS (l.map key) → l.filter (fun y => decide (n < key y)) = if n ∈ l.map key then l.drop (posL (l.map key) n + 1) else l.drop (posL (l.map key) n)
  | [], _ => by simp
  | x :: xs, hu => by
    obtain ⟨h1, h2⟩ := up_tail hu
    have ih := filt_gt h1
    rcases lt_or_eq_or_gt (key x) n with hx | hx | hx
    · have hne : n ≠ key x := by rintro e; rw [← e] at hx; exact List.lt_irrefl _ hx
      rw [posL_cons_lt hx, List.filter_cons_of_neg (by simpa using not_lt_of hx), ih]
      by_cases hm : n ∈ xs.map key
      · rw [if_pos hm, if_pos (by rw [List.map_cons]; exact List.mem_cons_of_mem _ hm)]; rfl
      · rw [if_neg hm, if_neg (by rw [List.map_cons, List.mem_cons]; exact fun h => h.elim hne hm)]; rfl
    · have hge : ¬ key x < n := by rw [hx]; exact List.lt_irrefl _
      rw [posL_cons_ge hge, if_pos (by rw [List.map_cons, hx]; exact List.mem_cons_self), List.filter_cons_of_neg (by rw [hx]; simp [List.lt_irrefl n])]
      show _ = xs
      rw [List.filter_eq_self]
      intro y hy
      have := h2 y hy
      rw [hx] at this
      simpa using this
    · have hge : ¬ key x < n := not_lt_of hx
      have hm : n ∉ (x :: xs).map key := by
        rw [List.mem_map]
        rintro ⟨y, hy, rfl⟩
        rcases List.mem_cons.1 hy with rfl | hy
        · exact List.lt_irrefl _ hx
        · exact List.lt_irrefl _ (List.lt_trans hx (h2 y hy))
      rw [posL_cons_ge hge, if_neg hm]
      show _ = x :: xs
      rw [List.filter_eq_self]
      intro y hy
      rcases List.mem_cons.1 hy with rfl | hy
      · simpa using hx
      · simpa using List.lt_trans hx (h2 y hy)
theorem filt_ne : ∀ {l : List α}, upS (l.map key) → l.filter (fun y => !(key y == n)) = l.filter (fun y => decide (key y < n)) ++ l.filter (fun y => decide (n < key y))
  | [], _ => by simp
  | x :: xs, hu => by
    obtain ⟨h1, h2⟩ := up_tail hu
    have ih := filt_ne h1
    rcases lt_or_eq_or_gt (key x) n with hx | hx | hx
    · rw [List.filter_cons_of_pos (by simpa using (beq_of_lt hx).1), ih, List.filter_cons_of_pos (p := fun y => decide (key y < n)) (by simpa using hx), List.filter_cons_of_neg (p := fun y => decide (n < key y)) (by simpa using not_lt_of hx)]
      rfl
    · rw [List.filter_cons_of_neg (by simp [hx]), ih, List.filter_cons_of_neg (p := fun y => decide (key y < n)) (by rw [hx]; simp [List.lt_irrefl n]), List.filter_cons_of_neg (p := fun y => decide (n < key y)) (by rw [hx]; simp [List.lt_irrefl n])]
    · have e : xs.filter (fun y => decide (key y < n)) = [] := by
        rw [List.filter_eq_nil_iff]; intro y hy; simpa using not_lt_of (List.lt_trans hx (h2 y hy))
      rw [List.filter_cons_of_pos (by simpa using (beq_of_lt hx).2), ih, e, List.filter_cons_of_neg (p := fun y => decide (key y < n)) (by simpa using not_lt_of hx), e, List.filter_cons_of_pos (p := fun y => decide (n < key y)) (by simpa using hx)]
      rfl
theorem withK_up {l : List α} {f : α} (hu : upS (l.map key)) : withK key l f = l.take (posL (l.map key) (key f)) ++ f :: (if key f ∈ l.map key then l.drop (posL (l.map key) (key f) + 1) else l.drop (posL (l.map key) (key f))) := by
  unfold withK; rw [filt_lt hu, filt_gt hu]
theorem withoutK_up {l : List α} (hu : upS (l.map key)) : withoutK key l n = l.take (posL (l.map key) n) ++ (if n ∈ l.map key then l.drop (posL (l.map key) n + 1) else l.drop (posL (l.map key) n)) := by
  unfold withoutK; rw [filt_ne hu, filt_lt hu, filt_gt hu]
theorem pos_lt {l : List α} (hu : upS (l.map key)) (h : n ∈ l.map key) : ∃ hk : posL (l.map key) n < l.length, key l[posL (l.map key) n] = n := by
  have h1 := (mem_at_pos hu).1 h
  have hlt : posL (l.map key) n < l.length := by
    have := (List.getElem?_eq_some_iff.1 h1).1; simpa using this
  refine ⟨hlt, ?_⟩
  rw [List.getElem?_eq_getElem (by simpa using hlt), Option.some.injEq] at h1
  simpa using h1
theorem find_up {l : List α} (hu : upS (l.map key)) (h : n ∈ l.map key) : ∃ hk : posL (l.map key) n < l.length, l.find? (fun y => key y == n) = some l[posL (l.map key) n] := by
  obtain ⟨hk, he⟩ := pos_lt hu h
  refine ⟨hk, ?_⟩
  have e : l = l.take (posL (l.map key) n) ++ l[posL (l.map key) n] :: l.drop (posL (l.map key) n + 1) := by simp
  have hn : (l.take (posL (l.map key) n)).find? (fun y => key y == n) = none := by
    rw [← filt_lt hu, List.find?_eq_none]
    intro y hy
    rw [List.mem_filter] at hy
    have := beq_of_lt (show key y < n by simpa using hy.2)
    simpa using this.1
  generalize posL (l.map key) n = k at *
  generalize hy : l[k] = y at *
  rw [e, List.find?_append, hn]
  simp [he]
theorem find_none {l : List α} (h : n ∉ l.map key) : l.find? (fun y => key y == n) = none := by
  rw [List.find?_eq_none]
  intro y hy
  simp only [beq_iff_eq]
  rintro rfl
  exact h (List.mem_map_of_mem hy)
theorem withK_up' {l : List α} {f : α} (hu : upS (l.map key)) : upS ((withK key l f).map key) := by
  unfold upS withK at *
  rw [List.map_append, List.map_cons, List.pairwise_append, List.pairwise_cons]
  have hs1 : (l.filter (fun y => decide (key y < key f))).Sublist l := List.filter_sublist
  have hs2 : (l.filter (fun y => decide (key f < key y))).Sublist l := List.filter_sublist
  refine ⟨hu.sublist (hs1.map key), ⟨?_, hu.sublist (hs2.map key)⟩, ?_⟩
  · intro a ha
    obtain ⟨y, hy, rfl⟩ := List.mem_map.1 ha
    rw [List.mem_filter] at hy
    simpa using hy.2
  · intro a ha b hb
    obtain ⟨y, hy, rfl⟩ := List.mem_map.1 ha
    rw [List.mem_filter] at hy
    have h1 : key y < key f := by simpa using hy.2
    rcases List.mem_cons.1 hb with rfl | hb
    · exact h1
    · obtain ⟨z, hz, rfl⟩ := List.mem_map.1 hb
      rw [List.mem_filter] at hz
      exact List.lt_trans h1 (by simpa using hz.2)
theorem withoutK_up' {l : List α} (hu : upS (l.map key)) : upS ((withoutK key l n).map key) := by
  have hs1 : (l.filter (fun y => !(key y == n))).Sublist l := List.filter_sublist
  exact List.Pairwise.sublist (hs1.map key) hu
end
end Go.Proofs.YtaompdnnkfmjhaaGreatDoor

namespace Go.Proofs.YtaompdnnkfmjhaaGreatDoor
open Go.RowKit

section
variable {α : Type} {key : α → List UInt8}
theorem filt_all {L : List α} {f : α} (h : ∀ x ∈ L, key x < key f) : L.filter (fun y => decide (key y < key f)) = L := by
  rw [List.filter_eq_self]; intro x hx; simpa using h x hx
theorem filt_none {L : List α} {f : α} (h : ∀ x ∈ L, key x < key f) : L.filter (fun y => decide (key f < key y)) = [] := by
  rw [List.filter_eq_nil_iff]; intro x hx; simp only [decide_eq_true_eq]; exact fun h2 => List.lt_asymm (h x hx) h2
theorem with_end {L : List α} {f : α} (h : ∀ x ∈ L, key x < key f) : withK key L f = L ++ [f] := by
  unfold withK
  rw [filt_all h, filt_none h]
theorem with_first {L : List α} {f y : α} (h : ∀ x ∈ L, key x < key f) (hy : ¬ key y < key f) : withK key (L ++ [y]) f = L ++ [f] ++ (if (key y == key f) = true then [] else [y]) := by
  unfold withK
  rw [List.filter_append, List.filter_append, filt_all h, filt_none h]
  by_cases e : key y = key f
  · simp [e, List.lt_irrefl]
  · have hl : key f < key y := by
      by_cases h1 : key f < key y
      · exact h1
      · exact absurd (List.le_antisymm (List.not_lt.1 h1) (List.not_lt.1 hy)) e
    simp [e, hy, hl]
theorem with_more {L : List α} {f y : α} (hy : key f < key y) : withK key (L ++ [y]) f = withK key L f ++ [y] := by
  unfold withK
  rw [List.filter_append, List.filter_append]
  have h2 : ¬ key y < key f := List.lt_asymm hy
  simp [hy, h2]
theorem with_len (L : List α) (f : α) : (withK key L f).length ≤ L.length + 1 := by
  unfold withK
  have h : ∀ L : List α, (L.filter (fun y => decide (key y < key f))).length + (L.filter (fun y => decide (key f < key y))).length ≤ L.length := by
    intro L
    induction L with
    | nil => simp
    | cons x xs ih =>
      by_cases h1 : key x < key f
      · have h2 : ¬ key f < key x := List.lt_asymm h1
        simp [h1, h2]; omega
      · by_cases h2 : key f < key x
        · simp [h1, h2]; omega
        · simp [h1, h2]; omega
  have := h L
  simp only [List.length_append, List.length_cons]; omega
theorem up_last {l : List α} {k : Nat} (hu : upS (l.map key)) (h : k < l.length) : ∀ x ∈ l.take k, key x < key l[k] := by
  intro x hx
  have h2 := hu
  unfold upS at h2
  rw [List.pairwise_map] at h2
  obtain ⟨i, hi, rfl⟩ := List.mem_take_iff_getElem.1 hx
  exact List.pairwise_iff_getElem.1 h2 i k _ h (by omega)
end

theorem own_base {w : World} {B B' e K n : Nat} {v : Value} {xs : List Value} (h : w.ownsRow B e K v n xs) (hB : B' ≤ B) : w.ownsRow B' e K v n xs := by
  obtain ⟨h1, h2⟩ := h
  refine ⟨h1, ?_⟩
  rcases h2 with h2 | ⟨g, cap, cur, hv, hb, h3⟩
  · exact .inl h2
  · exact .inr ⟨g, cap, cur, hv, by omega, h3⟩
end Go.Proofs.YtaompdnnkfmjhaaGreatDoor

namespace Go.Proofs.YtaompdnnkfmjhaaGreatDoor
open Go.RowKit

/-- A set and one more. -/
def addL (l : List (List UInt8)) (k : List UInt8) : List (List UInt8) := if k ∈ l then l else withK id l k
theorem addL_up {l : List (List UInt8)} {k : List UInt8} (hu : upS l) : upS (addL l k) := by
  unfold addL
  split
  · exact hu
  · have h := withK_up' (key := (id : List UInt8 → List UInt8)) (l := l) (f := k) (by simpa using hu)
    simpa using h
theorem addL_mem {l : List (List UInt8)} {k x : List UInt8} : x ∈ addL l k ↔ x = k ∨ x ∈ l := by
  unfold addL
  split
  · rename_i h
    exact ⟨.inr, fun h2 => by rcases h2 with rfl | h2; exact h; exact h2⟩
  · unfold withK
    simp only [List.mem_append, List.mem_filter, List.mem_cons, id, decide_eq_true_eq]
    constructor
    · rintro (⟨h, _⟩ | h | ⟨h, _⟩)
      · exact .inr h
      · exact .inl h
      · exact .inr h
    · rintro (h | h)
      · exact .inr (.inl h)
      · by_cases h1 : x < k
        · exact .inl ⟨h, h1⟩
        · by_cases h2 : k < x
          · exact .inr (.inr ⟨h, h2⟩)
          · exact .inr (.inl (List.le_antisymm (List.not_lt.1 h2) (List.not_lt.1 h1)))
/-- Where the loop stands. -/
def AddSt (l : List (List UInt8)) (k : List UInt8) (n : Nat) (d : Value) (out : List (List UInt8)) : Prop :=
  (d = .bool false ∧ out = l.take n ∧ ∀ x ∈ l.take n, x < k) ∨ (d = .bool true ∧ out = withK id (l.take n) k ∧ ∃ x ∈ l.take n, k < x)
theorem add_start (l : List (List UInt8)) (k : List UInt8) : AddSt l k 0 (.bool false) [] := .inl ⟨rfl, by simp, by simp⟩
theorem add_less {l : List (List UInt8)} {k y : List UInt8} {n : Nat} {out : List (List UInt8)} (h : n < l.length) (hy : l[n] = y) (hs : AddSt l k n (.bool false) out) (hl : y < k) : AddSt l k (n + 1) (.bool false) (out ++ [y]) := by
  rcases hs with ⟨_, h1, h2⟩ | ⟨h1, _⟩
  · refine .inl ⟨rfl, by rw [List.take_succ_eq_append_getElem h, h1, hy], fun x hx => ?_⟩
    rw [List.take_succ_eq_append_getElem h, List.mem_append] at hx
    rcases hx with hx | hx
    · exact h2 x hx
    · simp only [List.mem_singleton] at hx; rw [hx, hy]; exact hl
  · cases h1
theorem add_put {l : List (List UInt8)} {k y : List UInt8} {n : Nat} {out : List (List UInt8)} (h : n < l.length) (hy : l[n] = y) (hs : AddSt l k n (.bool false) out) (hl : k < y) : AddSt l k (n + 1) (.bool true) (out ++ [k] ++ [y]) := by
  rcases hs with ⟨_, h1, h2⟩ | ⟨h1, _⟩
  · refine .inr ⟨rfl, ?_, y, ?_, hl⟩
    · rw [List.take_succ_eq_append_getElem h, h1, hy, with_first (key := id) h2 (fun h3 => List.lt_asymm hl h3), if_neg]
      simp only [id, beq_iff_eq]
      intro e; rw [e] at hl; exact List.lt_irrefl _ hl
    · rw [List.take_succ_eq_append_getElem h, hy]; simp
  · cases h1
theorem add_on {l : List (List UInt8)} {k y : List UInt8} {n : Nat} {out : List (List UInt8)} (hu : upS l) (h : n < l.length) (hy : l[n] = y) (hs : AddSt l k n (.bool true) out) : k < y ∧ AddSt l k (n + 1) (.bool true) (out ++ [y]) := by
  rcases hs with ⟨h1, _⟩ | ⟨_, h1, x, hx, h2⟩
  · cases h1
  · have h3 := up_last (key := id) (by simpa using hu) h x hx
    have h4 : k < y := by
      rw [hy] at h3
      exact List.lt_trans h2 h3
    refine ⟨h4, .inr ⟨rfl, by rw [List.take_succ_eq_append_getElem h, h1, hy, with_more (key := id) h4], x, ?_, h2⟩⟩
    rw [List.take_succ_eq_append_getElem h, List.mem_append]; exact .inl hx
theorem own_mono {w : World} {B C e K n : Nat} {v : Value} {xs : List Value} (hBC : B ≤ C) (h : w.ownsRow C e K v n xs) : w.ownsRow B e K v n xs := by
  obtain ⟨h1, h2⟩ := h
  refine ⟨h1, ?_⟩
  rcases h2 with h2 | ⟨g, cap, cur, rfl, hb, h3⟩
  · exact .inl h2
  · exact .inr ⟨g, cap, cur, rfl, Nat.le_trans hBC hb, h3⟩
theorem s_one (k : List UInt8) : ∀ u ∈ [S k], u.oneCell' = true := by intro u hu; simp at hu; subst hu; rfl
end Go.Proofs.YtaompdnnkfmjhaaGreatDoor

namespace Go.Proofs.YtaompdnnkfmjhaaGreatDoor
open Go.RowKit


set_option maxHeartbeats 2000000 in
set_option maxRecDepth 100000 in
theorem rhas_walk (v : Value) (xs : List (List UInt8)) (k : List UInt8) (w : World) (hr : StrRow w v xs) (hcnt : xs.length ≤ 1100000) :
    Calls Tryz.prog 34 #[v, S k] w fun e w' => e = .returned (.bool (decide (k ∈ xs))) ∧ Below w.heap.size w w' := by
  obtain ⟨a, c, rfl, hc, hm, hx⟩ := hr
  have HX := Lib.hid hx
  have HT := Lib.hid (fun (h : k ∈ xs) => decide_eq_true h)
  have HF := Lib.hid (fun (h : ¬ k ∈ xs) => decide_eq_false h)
  generalize decide (k ∈ xs) = res at *
  clear hx
  go_enter Tryz.func34, Tryz.ntmps34
  go_wp2
  go_loopw [5] (fun i wr => ∃ j : Nat, j ≤ xs.length ∧ i = .int .i64 j ∧ (∀ x ∈ xs.take j, x ≠ k) ∧ Below w.heap.size w wr) (fun i _ => xs.length - (intOf i).toNat)
  case atStart => exact ⟨0, Nat.zero_le _, rfl, by simp, Below.refl _ _⟩
  case round =>
    obtain ⟨j, hj, rfl, hall, hB⟩ := hrel
    have HALL := Lib.hid hall
    clear hall
    by_cases h1 : j < xs.length
    · have h1' : (j : Int) < (xs.length : Int) := by omega
      have hx := HX.out
      rcases hx with hx | ⟨b, o, rfl, hx⟩
      · exfalso; rw [hx] at h1; simp at h1
      have hc1 := cell_below hB (str_cell hx h1)
      clear hx
      by_cases hq : xs[j] = k
      · have HR := Lib.hid (HT.out (by rw [← hq]; exact List.getElem_mem h1))
        have hq' : (xs[j] == k) = true := by rw [beq_iff_eq]; exact hq
        clear hq
        generalize xs[j] = y at *
        go_wp2
        go_ret
        exact ⟨by rw [HR.out]; rfl, hB⟩
      · have HN := Lib.hid (show ∀ x ∈ xs.take (j + 1), x ≠ k from fun x hx => by
          rw [List.take_succ_eq_append_getElem h1, List.mem_append] at hx
          rcases hx with hx | hx
          · exact HALL.out x hx
          · simp only [List.mem_singleton] at hx; rw [hx]; exact hq)
        have hq' : (xs[j] == k) = false := by rw [beq_eq_false_iff_ne]; exact hq
        clear hq
        generalize xs[j] = y at *
        go_wp2
        go_roundw
        case rel => exact ⟨j + 1, by omega, by go_num, HN.out, hB⟩
        case measure => simp [intOf]; omega
    · have h1' : ¬ (j : Int) < (xs.length : Int) := by omega
      have HR := Lib.hid (HF.out (fun h => by
        have h2 := HALL.out
        rw [List.take_of_length_le (by omega)] at h2
        exact h2 k h rfl))
      go_wp2
      go_ret
      exact ⟨by rw [HR.out]; rfl, hB⟩

end Go.Proofs.YtaompdnnkfmjhaaGreatDoor

namespace Go.Proofs.YtaompdnnkfmjhaaGreatDoor
open Go.RowKit

set_option maxHeartbeats 4000000 in
set_option maxRecDepth 100000 in
theorem radd2_walk (v : Value) (l : List (List UInt8)) (k : List UInt8) (w : World) (hr : StrRow w v l) (hcnt : l.length ≤ 1100000) (hup : upS l) :
    Calls Tryz.prog 60 #[v, S k] w fun e w' => ∃ v', e = .returned v' ∧ (addL l k = l ∧ v' = v ∨ w'.ownsRow w.heap.size 9 1 v' (addL l k).length ((addL l k).map S)) ∧ Below w.heap.size w w' := by
  have C := rhas_walk v l k w hr hcnt
  by_cases hin : k ∈ l
  · have HA := Lib.hid (show addL l k = l from if_pos hin)
    rw [decide_eq_true hin] at C
    clear hin hup
    go_enter Tryz.func60, Tryz.ntmps60
    go_wp2_with (go_at_call 34; refine (C).mono ?_; rintro e w1 ⟨rfl, hb1⟩)
    go_ret
    exact ⟨_, rfl, .inl ⟨HA.out, rfl⟩, hb1⟩
  have HA := Lib.hid (show addL l k = withK id l k from if_neg hin)
  rw [decide_eq_false hin] at C
  obtain ⟨a, c, rfl, hc, hm, hx⟩ := hr
  have HX := Lib.hid hx
  have HUP := Lib.hid hup
  have HIN := Lib.hid hin
  clear hx hup hin
  obtain ⟨i0, hi, hz0, hz1, hz2⟩ := info_parts infoStr
  go_enter Tryz.func60, Tryz.ntmps60
  go_wp2_with fail
  refine C.mono ?_
  rintro e w0 ⟨rfl, hB0⟩
  go_wp2
  go_loopw [5, 6, 7] (fun v d i wr => ∃ (n : Nat) (out : List (List UInt8)), n ≤ l.length ∧ i = .int .i64 n ∧ AddSt l k n d out ∧ wr.ownsRow w0.heap.size 9 1 v out.length (out.map S) ∧ out.length ≤ n + 1 ∧ Below w0.heap.size w0 wr) (fun _ _ i _ => l.length - (intOf i).toNat)
  case atStart => exact ⟨0, [], Nat.zero_le _, rfl, add_start _ _, World.ownsRow_nil _ _ _ _, by simp, Below.refl _ _⟩
  case round =>
    obtain ⟨n, out, hn, rfl, hst, hown, hdk, hB⟩ := hrel
    have hsz := hB.size
    have hBw := below_chain hB0 hB hB0.size
    by_cases h1 : n < l.length
    · have hx := HX.out
      rcases hx with hx | ⟨b, o, rfl, hx⟩
      · exfalso; rw [hx] at h1; simp at h1
      have hc1 := cell_below hBw (str_cell hx h1)
      obtain ⟨y, hy⟩ : ∃ y, l[n] = y := ⟨_, rfl⟩
      have hyk : y ≠ k := fun e => HIN.out (by rw [← e, ← hy]; exact List.getElem_mem h1)
      have HST := Lib.hid hst
      have HY := Lib.hid hy
      rw [hy] at hc1
      clear hx hy
      have h1' : (n : Int) < (l.length : Int) := by omega
      have hcase : (u6 = .bool false) ∨ (u6 = .bool true) := by
        rcases hst with ⟨h, _⟩ | ⟨h, _⟩
        · exact .inl h
        · exact .inr h
      clear hst
      rcases hcase with rfl | rfl
      · have hdk2 : out.length ≤ n := by
          rcases HST.out with ⟨_, h, _⟩ | ⟨h, _⟩
          · rw [h, List.length_take]; omega
          · cases h
        rcases three_ways y k with ⟨_, hlt, hbl, _, hne⟩ | ⟨_, heq, hbl, _, hne⟩ | ⟨_, hlt, hbl, hbl2, hne⟩
        · have HS := Lib.hid (add_less h1 HY.out HST.out hlt)
          clear hlt HST hyk
          go_wp2_with (at_builtin; refine wpList_append_own _ rfl _ _ 23 rfl w0.heap.size 9 i0 (.string ⟨#[]⟩) 1 16 Tryz.underlying23 hi hz0 hz1 hz2 rfl (by decide) _ _ _ rfl (hown.alloc _) ⟨wr.heap.size, 0, none⟩ 1 1 [S y] rfl rfl (new_cell_at rfl _ _) (s_one _) (by unfold maxLen; omega) (by omega) (by rw [World.size_alloc]; omega) ?_)
          intro v' w1 hown' hgrow _
          have hB1 : Below w0.heap.size w0 w1 := (hB.alloc hsz _).grown hgrow (by rw [World.size_alloc]; omega) (fun j hj => (hown.lt j hj).1)
          clear hgrow hown hB hc1
          go_wp2
          go_roundw
          case rel => exact ⟨n + 1, _, by omega, by go_num, HS.out, by simpa using hown', by simp; omega, hB1⟩
          case measure => simp [intOf]; omega
        · exact absurd heq hyk
        · have HS := Lib.hid (add_put h1 HY.out HST.out hlt)
          clear hlt HST hyk
          go_wp2_with (at_builtin; refine wpList_append_own _ rfl _ _ 23 rfl w0.heap.size 9 i0 (.string ⟨#[]⟩) 1 16 Tryz.underlying23 hi hz0 hz1 hz2 rfl (by decide) _ _ _ rfl (hown.alloc _) ⟨wr.heap.size, 0, none⟩ 1 1 [S k] rfl rfl (new_cell_at rfl _ _) (s_one _) (by unfold maxLen; omega) (by omega) (by rw [World.size_alloc]; omega) ?_)
          intro v' w1 hown' hgrow _
          have hB1 : Below w0.heap.size w0 w1 := (hB.alloc hsz _).grown hgrow (by rw [World.size_alloc]; omega) (fun j hj => (hown.lt j hj).1)
          have hsz1 := hB1.size
          have hBw1 := below_chain hB0 hB1 hB0.size
          have hx := HX.out
          rcases hx with hx | ⟨b2, o2, hbo, hx⟩
          · exfalso; rw [hx] at h1; simp at h1
          cases hbo
          have hc2 := cell_below hBw1 (str_cell hx h1)
          rw [HY.out] at hc2
          clear hx hgrow hown hB hc1
          go_wp2_with (at_builtin; refine wpList_append_own _ rfl _ _ 23 rfl w0.heap.size 9 i0 (.string ⟨#[]⟩) 1 16 Tryz.underlying23 hi hz0 hz1 hz2 rfl (by decide) _ _ _ rfl (hown'.alloc _) ⟨w1.heap.size, 0, none⟩ 1 1 [S y] rfl rfl (new_cell_at rfl _ _) (s_one _) (by unfold maxLen; omega) (by omega) (by rw [World.size_alloc]; omega) ?_)
          intro v'' w2 hown2 hgrow2 _
          have hB2 : Below w0.heap.size w0 w2 := (hB1.alloc hsz1 _).grown hgrow2 (by rw [World.size_alloc]; omega) (fun j hj => (hown'.lt j hj).1)
          clear hgrow2 hown' hB1
          go_wp2
          go_roundw
          case rel => exact ⟨n + 1, _, by omega, by go_num, HS.out, by simpa using hown2, by simp; omega, hB2⟩
          case measure => simp [intOf]; omega
      · obtain ⟨hlt, hS⟩ := add_on HUP.out h1 HY.out HST.out
        have HS := Lib.hid hS
        clear hlt hS HST hyk
        go_wp2_with (at_builtin; refine wpList_append_own _ rfl _ _ 23 rfl w0.heap.size 9 i0 (.string ⟨#[]⟩) 1 16 Tryz.underlying23 hi hz0 hz1 hz2 rfl (by decide) _ _ _ rfl (hown.alloc _) ⟨wr.heap.size, 0, none⟩ 1 1 [S y] rfl rfl (new_cell_at rfl _ _) (s_one _) (by unfold maxLen; omega) (by omega) (by rw [World.size_alloc]; omega) ?_)
        intro v' w1 hown' hgrow _
        have hB1 : Below w0.heap.size w0 w1 := (hB.alloc hsz _).grown hgrow (by rw [World.size_alloc]; omega) (fun j hj => (hown.lt j hj).1)
        clear hgrow hown hB hc1
        go_wp2
        go_roundw
        case rel => exact ⟨n + 1, _, by omega, by go_num, HS.out, by simpa using hown', by simp; omega, hB1⟩
        case measure => simp [intOf]; omega
    · have h1' : ¬ (n : Int) < (l.length : Int) := by omega
      obtain rfl : n = l.length := by omega
      have hst2 := hst
      rcases hst2 with ⟨rfl, h2, h3⟩ | ⟨rfl, h2, _⟩
      · rw [List.take_of_length_le (Nat.le_refl _)] at h2 h3
        have HW := Lib.hid (show withK id l k = out ++ [k] by rw [h2]; exact with_end (key := id) h3)
        clear hst h2 h3
        go_wp2_with (at_builtin; refine wpList_append_own _ rfl _ _ 23 rfl w0.heap.size 9 i0 (.string ⟨#[]⟩) 1 16 Tryz.underlying23 hi hz0 hz1 hz2 rfl (by decide) _ _ _ rfl (hown.alloc _) ⟨wr.heap.size, 0, none⟩ 1 1 [S k] rfl rfl (new_cell_at rfl _ _) (s_one _) (by unfold maxLen; omega) (by omega) (by rw [World.size_alloc]; omega) ?_)
        intro v' w1 hown' hgrow _
        have hB1 : Below w0.heap.size w0 w1 := (hB.alloc hsz _).grown hgrow (by rw [World.size_alloc]; omega) (fun j hj => (hown.lt j hj).1)
        clear hgrow hown hB
        go_wp2
        go_ret
        refine ⟨_, rfl, ?_, below_chain hB0 hB1 hB0.size⟩
        rw [HA.out, HW.out]; exact .inr (own_mono hB0.size (by simpa using hown'))
      · rw [List.take_of_length_le (Nat.le_refl _)] at h2
        have HW := Lib.hid h2
        clear hst h2
        go_wp2
        go_ret
        refine ⟨_, rfl, ?_, hBw⟩
        rw [HA.out, ← HW.out]; exact .inr (own_mono hB0.size hown)
theorem radd_walk (v : Value) (l : List (List UInt8)) (k : List UInt8) (w : World) (hr : StrRow w v l) (hcnt : l.length ≤ 1100000) (hup : upS l) :
    Calls Tryz.prog 60 #[v, S k] w fun e w' => ∃ v', e = .returned v' ∧ StrRow w' v' (addL l k) ∧ Below w.heap.size w w' := by
  refine (radd2_walk v l k w hr hcnt hup).mono ?_
  rintro e w' ⟨v', rfl, h, hb⟩
  refine ⟨v', rfl, ?_, hb⟩
  rcases h with ⟨h1, rfl⟩ | h
  · rw [h1]; exact hr.below hb
  · exact StrRow.of_owns h
end Go.Proofs.YtaompdnnkfmjhaaGreatDoor
