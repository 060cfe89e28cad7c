/- Sets of keys: plain. Rows that rise by a text: what stands ahead of it, behind it, at it. A row that rises, with one more: plain. A set and one more: plain. Objects, and one more: plain. -/
import Derived.Test.YtkejdbidomlonaaGreatDoorJTreePlain
import Derived.Test.YtkejdbidomlonaaGreatDoorJNodeFit
import Derived.Test.YtkejdbidomlonaaGreatDoorJPlain
import Derived.Test.YtkejdbidomlonaaGreatDoorJSnpPlain
namespace Go.Proofs.YtkejdbidomlonaaGreatDoor
open Go.RowKit

/-- Keys that can be a set. -/
def fit5 (l : List (List UInt8)) : Bool := l.all (fun x => x.length == 32) && upN l
theorem str_cell {w : World} {b o : Nat} {xs : List (List UInt8)} (h : ∀ j x, xs[j]? = some x → w.cell? ⟨b, o + j, none⟩ = some (S x)) {j : Nat} (hj : j < xs.length) : w.cell? ⟨b, o + j, none⟩ = some (S xs[j]) := h j xs[j] (by simp [hj])

theorem fit5_bad {l : List (List UInt8)} {k : Nat} (h : k < l.length) (hb : l[k].length ≠ 32) : fit5 l = false := by
  unfold fit5
  rw [Bool.and_eq_false_iff]
  left
  rw [List.all_eq_false]
  exact ⟨l[k], by simp, by simpa using hb⟩
theorem fit5_down {l : List (List UInt8)} {j : Nat} (h : j + 1 < l.length) (hb : ¬ l[j] < l[j + 1]) : fit5 l = false := by
  unfold fit5
  rw [Bool.and_eq_false_iff]
  right
  cases hu : upN l with
  | false => rfl
  | true =>
    have h1 := upN_take l (j + 2) hu
    rw [upN_step h] at h1
    simp [hb] at h1
theorem fit5_one (l : List (List UInt8)) : upN (l.take 1) = true := by
  cases l with
  | nil => rfl
  | cons a t => simp [upN]
theorem fit5_all {l : List (List UInt8)} (h : ∀ x ∈ l, x.length = 32) (hu : upN l = true) : fit5 l = true := by
  unfold fit5
  rw [Bool.and_eq_true]
  exact ⟨List.all_eq_true.2 (fun x hx => by simpa using h x hx), hu⟩
theorem all32_step {l : List (List UInt8)} {k : Nat} (h : k < l.length) (ha : ∀ x ∈ l.take k, x.length = 32) (hb : l[k].length = 32) : ∀ x ∈ l.take (k + 1), x.length = 32 := by
  intro x hx
  rw [List.take_succ_eq_append_getElem h, List.mem_append] at hx
  rcases hx with hx | hx
  · exact ha x hx
  · simp only [List.mem_singleton] at hx; rw [hx]; exact hb
end Go.Proofs.YtkejdbidomlonaaGreatDoor

namespace Go.Proofs.YtkejdbidomlonaaGreatDoor

section
variable {α : Type} {key : α → List UInt8} {n : List UInt8}
theorem posL_cons_lt {x : α} {xs : List α} (h : key x < n) : posL ((x :: xs).map key) n = posL (xs.map key) n + 1 := by
  unfold posL; rw [List.map_cons, List.takeWhile_cons_of_pos (by simpa using h)]; rfl
theorem posL_cons_ge {x : α} {xs : List α} (h : ¬ key x < n) : posL ((x :: xs).map key) n = 0 := by
  unfold posL; rw [List.map_cons, List.takeWhile_cons_of_neg (by simpa using h)]; rfl
theorem up_tail {x : α} {xs : List α} (hu : upS ((x :: xs).map key)) : upS (xs.map key) ∧ ∀ y ∈ xs, key x < key y := by
  unfold upS at *
  rw [List.map_cons, List.pairwise_cons] at hu
  exact ⟨hu.2, fun y hy => hu.1 _ (List.mem_map_of_mem hy)⟩
theorem filt_lt : ∀ {l : List α}, upS (l.map key) → l.filter (fun y => decide (key y < n)) = l.take (posL (l.map key) n)
  | [], _ => by simp
  | x :: xs, hu => by
    obtain ⟨h1, h2⟩ := up_tail hu
    by_cases hx : key x < n
    · rw [posL_cons_lt hx, List.take_succ_cons, List.filter_cons_of_pos (by simpa using hx), filt_lt h1]
    · rw [posL_cons_ge hx, List.take_zero, List.filter_eq_nil_iff]
      intro y hy
      simp only [decide_eq_true_eq]
      rcases List.mem_cons.1 hy with rfl | hy
      · exact hx
      · exact fun h => hx (List.lt_trans (h2 y hy) h)
theorem filt_gt : ∀ {l : List α}, upS (l.map key) → l.filter (fun y => decide (n < key y)) = if n ∈ l.map key then l.drop (posL (l.map key) n + 1) else l.drop (posL (l.map key) n)
  | [], _ => by simp
  | x :: xs, hu => by
    obtain ⟨h1, h2⟩ := up_tail hu
    have ih := filt_gt h1
    rcases lt_or_eq_or_gt (key x) n with hx | hx | hx
    · have hne : n ≠ key x := by rintro e; rw [← e] at hx; exact List.lt_irrefl _ hx
      rw [posL_cons_lt hx, List.filter_cons_of_neg (by simpa using not_lt_of hx), ih]
      by_cases hm : n ∈ xs.map key
      · rw [if_pos hm, if_pos (by rw [List.map_cons]; exact List.mem_cons_of_mem _ hm)]; rfl
      · rw [if_neg hm, if_neg (by rw [List.map_cons, List.mem_cons]; exact fun h => h.elim hne hm)]; rfl
    · have hge : ¬ key x < n := by rw [hx]; exact List.lt_irrefl _
      rw [posL_cons_ge hge, if_pos (by rw [List.map_cons, hx]; exact List.mem_cons_self), List.filter_cons_of_neg (by rw [hx]; simp [List.lt_irrefl n])]
      show _ = xs
      rw [List.filter_eq_self]
      intro y hy
      have := h2 y hy
      rw [hx] at this
      simpa using this
    · have hge : ¬ key x < n := not_lt_of hx
      have hm : n ∉ (x :: xs).map key := by
        rw [List.mem_map]
        rintro ⟨y, hy, rfl⟩
        rcases List.mem_cons.1 hy with rfl | hy
        · exact List.lt_irrefl _ hx
        · exact List.lt_irrefl _ (List.lt_trans hx (h2 y hy))
      rw [posL_cons_ge hge, if_neg hm]
      show _ = x :: xs
      rw [List.filter_eq_self]
      intro y hy
      rcases List.mem_cons.1 hy with rfl | hy
      · simpa using hx
      · simpa using List.lt_trans hx (h2 y hy)
theorem filt_ne : ∀ {l : List α}, upS (l.map key) → l.filter (fun y => !(key y == n)) = l.filter (fun y => decide (key y < n)) ++ l.filter (fun y => decide (n < key y))
  | [], _ => by simp
  | x :: xs, hu => by
    obtain ⟨h1, h2⟩ := up_tail hu
    have ih := filt_ne h1
    rcases lt_or_eq_or_gt (key x) n with hx | hx | hx
    · rw [List.filter_cons_of_pos (by simpa using (beq_of_lt hx).1), ih, List.filter_cons_of_pos (p := fun y => decide (key y < n)) (by simpa using hx), List.filter_cons_of_neg (p := fun y => decide (n < key y)) (by simpa using not_lt_of hx)]
      rfl
    · rw [List.filter_cons_of_neg (by simp [hx]), ih, List.filter_cons_of_neg (p := fun y => decide (key y < n)) (by rw [hx]; simp [List.lt_irrefl n]), List.filter_cons_of_neg (p := fun y => decide (n < key y)) (by rw [hx]; simp [List.lt_irrefl n])]
    · have e : xs.filter (fun y => decide (key y < n)) = [] := by
        rw [List.filter_eq_nil_iff]; intro y hy; simpa using not_lt_of (List.lt_trans hx (h2 y hy))
      rw [List.filter_cons_of_pos (by simpa using (beq_of_lt hx).2), ih, e, List.filter_cons_of_neg (p := fun y => decide (key y < n)) (by simpa using not_lt_of hx), e, List.filter_cons_of_pos (p := fun y => decide (n < key y)) (by simpa using hx)]
      rfl
theorem withK_up {l : List α} {f : α} (hu : upS (l.map key)) : withK key l f = l.take (posL (l.map key) (key f)) ++ f :: (if key f ∈ l.map key then l.drop (posL (l.map key) (key f) + 1) else l.drop (posL (l.map key) (key f))) := by
  unfold withK; rw [filt_lt hu, filt_gt hu]
theorem withoutK_up {l : List α} (hu : upS (l.map key)) : withoutK key l n = l.take (posL (l.map key) n) ++ (if n ∈ l.map key then l.drop (posL (l.map key) n + 1) else l.drop (posL (l.map key) n)) := by
  unfold withoutK; rw [filt_ne hu, filt_lt hu, filt_gt hu]
theorem pos_lt {l : List α} (hu : upS (l.map key)) (h : n ∈ l.map key) : ∃ hk : posL (l.map key) n < l.length, key l[posL (l.map key) n] = n := by
  have h1 := (mem_at_pos hu).1 h
  have hlt : posL (l.map key) n < l.length := by
    have := (List.getElem?_eq_some_iff.1 h1).1; simpa using this
  refine ⟨hlt, ?_⟩
  rw [List.getElem?_eq_getElem (by simpa using hlt), Option.some.injEq] at h1
  simpa using h1
theorem find_up {l : List α} (hu : upS (l.map key)) (h : n ∈ l.map key) : ∃ hk : posL (l.map key) n < l.length, l.find? (fun y => key y == n) = some l[posL (l.map key) n] := by
  obtain ⟨hk, he⟩ := pos_lt hu h
  refine ⟨hk, ?_⟩
  have e : l = l.take (posL (l.map key) n) ++ l[posL (l.map key) n] :: l.drop (posL (l.map key) n + 1) := by simp
  have hn : (l.take (posL (l.map key) n)).find? (fun y => key y == n) = none := by
    rw [← filt_lt hu, List.find?_eq_none]
    intro y hy
    rw [List.mem_filter] at hy
    have := beq_of_lt (show key y < n by simpa using hy.2)
    simpa using this.1
  generalize posL (l.map key) n = k at *
  generalize hy : l[k] = y at *
  rw [e, List.find?_append, hn]
  simp [he]
theorem find_none {l : List α} (h : n ∉ l.map key) : l.find? (fun y => key y == n) = none := by
  rw [List.find?_eq_none]
  intro y hy
  simp only [beq_iff_eq]
  rintro rfl
  exact h (List.mem_map_of_mem hy)
theorem withK_up' {l : List α} {f : α} (hu : upS (l.map key)) : upS ((withK key l f).map key) := by
  unfold upS withK at *
  rw [List.map_append, List.map_cons, List.pairwise_append, List.pairwise_cons]
  have hs1 : (l.filter (fun y => decide (key y < key f))).Sublist l := List.filter_sublist
  have hs2 : (l.filter (fun y => decide (key f < key y))).Sublist l := List.filter_sublist
  refine ⟨hu.sublist (hs1.map key), ⟨?_, hu.sublist (hs2.map key)⟩, ?_⟩
  · intro a ha
    obtain ⟨y, hy, rfl⟩ := List.mem_map.1 ha
    rw [List.mem_filter] at hy
    simpa using hy.2
  · intro a ha b hb
    obtain ⟨y, hy, rfl⟩ := List.mem_map.1 ha
    rw [List.mem_filter] at hy
    have h1 : key y < key f := by simpa using hy.2
    rcases List.mem_cons.1 hb with rfl | hb
    · exact h1
    · obtain ⟨z, hz, rfl⟩ := List.mem_map.1 hb
      rw [List.mem_filter] at hz
      exact List.lt_trans h1 (by simpa using hz.2)
theorem withoutK_up' {l : List α} (hu : upS (l.map key)) : upS ((withoutK key l n).map key) := by
  have hs1 : (l.filter (fun y => !(key y == n))).Sublist l := List.filter_sublist
  exact List.Pairwise.sublist (hs1.map key) hu
end
end Go.Proofs.YtkejdbidomlonaaGreatDoor

namespace Go.Proofs.YtkejdbidomlonaaGreatDoor
open Go.RowKit

section
variable {α : Type} {key : α → List UInt8}
theorem filt_all {L : List α} {f : α} (h : ∀ x ∈ L, key x < key f) : L.filter (fun y => decide (key y < key f)) = L := by
  rw [List.filter_eq_self]; intro x hx; simpa using h x hx
theorem filt_none {L : List α} {f : α} (h : ∀ x ∈ L, key x < key f) : L.filter (fun y => decide (key f < key y)) = [] := by
  rw [List.filter_eq_nil_iff]; intro x hx; simp only [decide_eq_true_eq]; exact fun h2 => List.lt_asymm (h x hx) h2
theorem with_end {L : List α} {f : α} (h : ∀ x ∈ L, key x < key f) : withK key L f = L ++ [f] := by
  unfold withK
  rw [filt_all h, filt_none h]
theorem with_first {L : List α} {f y : α} (h : ∀ x ∈ L, key x < key f) (hy : ¬ key y < key f) : withK key (L ++ [y]) f = L ++ [f] ++ (if (key y == key f) = true then [] else [y]) := by
  unfold withK
  rw [List.filter_append, List.filter_append, filt_all h, filt_none h]
  by_cases e : key y = key f
  · simp [e, List.lt_irrefl]
  · have hl : key f < key y := by
      by_cases h1 : key f < key y
      · exact h1
      · exact absurd (List.le_antisymm (List.not_lt.1 h1) (List.not_lt.1 hy)) e
    simp [e, hy, hl]
theorem with_more {L : List α} {f y : α} (hy : key f < key y) : withK key (L ++ [y]) f = withK key L f ++ [y] := by
  unfold withK
  rw [List.filter_append, List.filter_append]
  have h2 : ¬ key y < key f := List.lt_asymm hy
  simp [hy, h2]
theorem with_len (L : List α) (f : α) : (withK key L f).length ≤ L.length + 1 := by
  unfold withK
  have h : ∀ L : List α, (L.filter (fun y => decide (key y < key f))).length + (L.filter (fun y => decide (key f < key y))).length ≤ L.length := by
    intro L
    induction L with
    | nil => simp
    | cons x xs ih =>
      by_cases h1 : key x < key f
      · have h2 : ¬ key f < key x := List.lt_asymm h1
        simp [h1, h2]; omega
      · by_cases h2 : key f < key x
        · simp [h1, h2]; omega
        · simp [h1, h2]; omega
  have := h L
  simp only [List.length_append, List.length_cons]; omega
theorem up_last {l : List α} {k : Nat} (hu : upS (l.map key)) (h : k < l.length) : ∀ x ∈ l.take k, key x < key l[k] := by
  intro x hx
  have h2 := hu
  unfold upS at h2
  rw [List.pairwise_map] at h2
  obtain ⟨i, hi, rfl⟩ := List.mem_take_iff_getElem.1 hx
  exact List.pairwise_iff_getElem.1 h2 i k _ h (by omega)
end

theorem own_base {w : World} {B B' e K n : Nat} {v : Value} {xs : List Value} (h : w.ownsRow B e K v n xs) (hB : B' ≤ B) : w.ownsRow B' e K v n xs := by
  obtain ⟨h1, h2⟩ := h
  refine ⟨h1, ?_⟩
  rcases h2 with h2 | ⟨g, cap, cur, hv, hb, h3⟩
  · exact .inl h2
  · exact .inr ⟨g, cap, cur, hv, by omega, h3⟩
end Go.Proofs.YtkejdbidomlonaaGreatDoor

namespace Go.Proofs.YtkejdbidomlonaaGreatDoor
open Go.RowKit

/-- A set and one more. -/
def addL (l : List (List UInt8)) (k : List UInt8) : List (List UInt8) := if k ∈ l then l else withK id l k
theorem addL_up {l : List (List UInt8)} {k : List UInt8} (hu : upS l) : upS (addL l k) := by
  unfold addL
  split
  · exact hu
  · have h := withK_up' (key := (id : List UInt8 → List UInt8)) (l := l) (f := k) (by simpa using hu)
    simpa using h
theorem addL_mem {l : List (List UInt8)} {k x : List UInt8} : x ∈ addL l k ↔ x = k ∨ x ∈ l := by
  unfold addL
  split
  · rename_i h
    exact ⟨.inr, fun h2 => by rcases h2 with rfl | h2; exact h; exact h2⟩
  · unfold withK
    simp only [List.mem_append, List.mem_filter, List.mem_cons, id, decide_eq_true_eq]
    constructor
    · rintro (⟨h, _⟩ | h | ⟨h, _⟩)
      · exact .inr h
      · exact .inl h
      · exact .inr h
    · rintro (h | h)
      · exact .inr (.inl h)
      · by_cases h1 : x < k
        · exact .inl ⟨h, h1⟩
        · by_cases h2 : k < x
          · exact .inr (.inr ⟨h, h2⟩)
          · exact .inr (.inl (List.le_antisymm (List.not_lt.1 h2) (List.not_lt.1 h1)))
/-- Where the loop stands. -/
def AddSt (l : List (List UInt8)) (k : List UInt8) (n : Nat) (d : Value) (out : List (List UInt8)) : Prop :=
  (d = .bool false ∧ out = l.take n ∧ ∀ x ∈ l.take n, x < k) ∨ (d = .bool true ∧ out = withK id (l.take n) k ∧ ∃ x ∈ l.take n, k < x)
theorem add_start (l : List (List UInt8)) (k : List UInt8) : AddSt l k 0 (.bool false) [] := .inl ⟨rfl, by simp, by simp⟩
theorem add_less {l : List (List UInt8)} {k y : List UInt8} {n : Nat} {out : List (List UInt8)} (h : n < l.length) (hy : l[n] = y) (hs : AddSt l k n (.bool false) out) (hl : y < k) : AddSt l k (n + 1) (.bool false) (out ++ [y]) := by
  rcases hs with ⟨_, h1, h2⟩ | ⟨h1, _⟩
  · refine .inl ⟨rfl, by rw [List.take_succ_eq_append_getElem h, h1, hy], fun x hx => ?_⟩
    rw [List.take_succ_eq_append_getElem h, List.mem_append] at hx
    rcases hx with hx | hx
    · exact h2 x hx
    · simp only [List.mem_singleton] at hx; rw [hx, hy]; exact hl
  · cases h1
theorem add_put {l : List (List UInt8)} {k y : List UInt8} {n : Nat} {out : List (List UInt8)} (h : n < l.length) (hy : l[n] = y) (hs : AddSt l k n (.bool false) out) (hl : k < y) : AddSt l k (n + 1) (.bool true) (out ++ [k] ++ [y]) := by
  rcases hs with ⟨_, h1, h2⟩ | ⟨h1, _⟩
  · refine .inr ⟨rfl, ?_, y, ?_, hl⟩
    · rw [List.take_succ_eq_append_getElem h, h1, hy, with_first (key := id) h2 (fun h3 => List.lt_asymm hl h3), if_neg]
      simp only [id, beq_iff_eq]
      intro e; rw [e] at hl; exact List.lt_irrefl _ hl
    · rw [List.take_succ_eq_append_getElem h, hy]; simp
  · cases h1
theorem add_on {l : List (List UInt8)} {k y : List UInt8} {n : Nat} {out : List (List UInt8)} (hu : upS l) (h : n < l.length) (hy : l[n] = y) (hs : AddSt l k n (.bool true) out) : k < y ∧ AddSt l k (n + 1) (.bool true) (out ++ [y]) := by
  rcases hs with ⟨h1, _⟩ | ⟨_, h1, x, hx, h2⟩
  · cases h1
  · have h3 := up_last (key := id) (by simpa using hu) h x hx
    have h4 : k < y := by
      rw [hy] at h3
      exact List.lt_trans h2 h3
    refine ⟨h4, .inr ⟨rfl, by rw [List.take_succ_eq_append_getElem h, h1, hy, with_more (key := id) h4], x, ?_, h2⟩⟩
    rw [List.take_succ_eq_append_getElem h, List.mem_append]; exact .inl hx
theorem own_mono {w : World} {B C e K n : Nat} {v : Value} {xs : List Value} (hBC : B ≤ C) (h : w.ownsRow C e K v n xs) : w.ownsRow B e K v n xs := by
  obtain ⟨h1, h2⟩ := h
  refine ⟨h1, ?_⟩
  rcases h2 with h2 | ⟨g, cap, cur, rfl, hb, h3⟩
  · exact .inl h2
  · exact .inr ⟨g, cap, cur, rfl, Nat.le_trans hBC hb, h3⟩
theorem s_one (k : List UInt8) : ∀ u ∈ [S k], u.oneCell' = true := by intro u hu; simp at hu; subst hu; rfl
end Go.Proofs.YtkejdbidomlonaaGreatDoor

namespace Go.Proofs.YtkejdbidomlonaaGreatDoor

def addO (l : List Snp) (x : Snp) : List Snp := if (findR l x.1).isSome = true ∨ x.1.length ≠ 32 then l else insR l x
theorem findR_is {l : List Snp} {n : List UInt8} (hu : upS (namesR l)) : (findR l n).isSome = decide (n ∈ namesR l) := by
  by_cases hin : n ∈ namesR l
  · obtain ⟨_, hf⟩ := findR_pos hu hin
    rw [hf]; simp [hin]
  · rw [findR_none hin]; simp [hin]
theorem names_ins {l : List Snp} {x : Snp} (hu : upS (namesR l)) (hx : x.1 ∉ namesR l) : namesR (insR l x) = addL (namesR l) x.1 := by
  have h2 := withK_up (key := (id : List UInt8 → List UInt8)) (l := namesR l) (f := x.1) (by simpa using hu)
  rw [insR_pos hx]
  unfold addL
  rw [if_neg hx, h2]
  simp only [List.map_id, id]
  rw [if_neg hx]
  simp [namesR, List.map_take, List.map_drop]
theorem insO_len {l : List Snp} {x : Snp} (hx : x.1 ∉ namesR l) : (insR l x).length = l.length + 1 := by
  have h := posL_le (namesR l) x.1
  rw [namesR_len] at h
  rw [insR_pos hx]; simp; omega
theorem addO_len (l : List Snp) (x : Snp) : (addO l x).length ≤ l.length + 1 := by
  unfold addO
  split
  · omega
  · rw [show (insR l x).length = l.length + 1 from by
      unfold insR
      have := congrArg List.length (List.takeWhile_append_dropWhile (p := fun y => !decide (x.1 < y.1)) (l := l))
      rw [List.length_append] at this
      simp only [List.length_append, List.length_cons]; omega]
    exact Nat.le_refl _
theorem mem_insO {l : List Snp} {x y : Snp} : y ∈ insR l x ↔ y = x ∨ y ∈ l := by
  unfold insR
  rw [List.mem_append, List.mem_cons]
  have h : y ∈ l ↔ y ∈ l.takeWhile (fun y => !decide (x.1 < y.1)) ∨ y ∈ l.dropWhile (fun y => !decide (x.1 < y.1)) := by
    rw [← List.mem_append, List.takeWhile_append_dropWhile]
  rw [h]
  constructor
  · rintro (h1 | h1 | h1)
    · exact .inr (.inl h1)
    · exact .inl h1
    · exact .inr (.inr h1)
  · rintro (h1 | h1 | h1)
    · exact .inr (.inl h1)
    · exact .inl h1
    · exact .inr (.inr h1)
theorem upN_of12 : ∀ {l : List (List UInt8)}, upS l → upN l = true
  | [], _ => rfl
  | [_], _ => rfl
  | a :: b :: t, h => by
    unfold upN
    unfold upS at h
    rw [Bool.and_eq_true, decide_eq_true_eq]
    exact ⟨(List.pairwise_cons.1 h).1 b (by simp), upN_of12 (l := b :: t) (List.pairwise_cons.1 h).2⟩
theorem fit5_up12 {m : List (List UInt8)} (h : fit5 m = true) : upS m := by
  unfold fit5 at h
  rw [Bool.and_eq_true] at h
  exact upN_pairs _ h.2
theorem fit5_len12 {l : List (List UInt8)} (h : fit5 l = true) : ∀ x ∈ l, x.length = 32 := by
  unfold fit5 at h
  rw [Bool.and_eq_true, List.all_eq_true] at h
  intro x hx
  simpa using h.1 x hx
theorem addO_fit {l : List Snp} {x : Snp} (h : fit5 (namesR l) = true) : fit5 (namesR (addO l x)) = true := by
  unfold addO
  split
  · exact h
  · rename_i hc
    have hu := fit5_up12 h
    have hx : x.1 ∉ namesR l := fun hin => hc (.inl (by rw [findR_is hu]; simpa using hin))
    have h32 : x.1.length = 32 := Classical.byContradiction fun h => hc (.inr h)
    rw [names_ins hu hx]
    refine fit5_all (fun y hy => ?_) (upN_of12 (addL_up hu))
    rcases addL_mem.1 hy with rfl | hy
    · exact h32
    · exact fit5_len12 h y hy
theorem find_mem : ∀ {l : List Snp}, upS (namesR l) → ∀ y ∈ l, findR l y.1 = some y.2
  | z :: t, hu, y, hy => by
    unfold namesR upS at hu
    rw [List.map_cons, List.pairwise_cons] at hu
    unfold findR
    by_cases h : z.1 = y.1
    · rcases List.mem_cons.1 hy with rfl | hy
      · rw [List.find?_cons_of_pos (by simp)]; rfl
      · exact absurd (hu.1 y.1 (List.mem_map.2 ⟨y, hy, rfl⟩)) (by rw [h]; exact List.lt_irrefl _)
    · rcases List.mem_cons.1 hy with rfl | hy
      · exact absurd rfl h
      · have ih := find_mem (l := t) hu.2 y hy
        unfold findR at ih
        rw [List.find?_cons_of_neg (by simpa using h)]; exact ih
/-- What was added is found, and all that was there. -/
theorem addO_finds {l : List Snp} {x : Snp} (hu : upS (namesR l)) (hx : x.1 ∉ namesR l) : findR (insR l x) x.1 = some x.2 ∧ ∀ y ∈ l, findR (insR l x) y.1 = some y.2 := by
  have h := addL_up (k := x.1) hu
  rw [← names_ins hu hx] at h
  exact ⟨find_mem h x (mem_insO.2 (.inl rfl)), fun y hy => find_mem h y (mem_insO.2 (.inr hy))⟩
end Go.Proofs.YtkejdbidomlonaaGreatDoor
