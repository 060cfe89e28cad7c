/- Rows that rise by a text: what stands ahead of it, behind it, at it. A row that rises, with one more: plain. A set and one more: plain. -/
import Derived.Test.YtocommjoncchpaaGreatDoorJRowG
import Derived.Test.YtocommjoncchpaaGreatDoorJDiskPlain
namespace Go.Proofs.YtocommjoncchpaaGreatDoor

section
variable {α : Type} {key : α → List UInt8} {n : List UInt8}
theorem posL_cons_lt {x : α} {xs : List α} (h : key x < n) : posL ((x :: xs).map key) n = posL (xs.map key) n + 1 := by
  unfold posL; rw [List.map_cons, List.takeWhile_cons_of_pos (by simpa using h)]; rfl
theorem posL_cons_ge {x : α} {xs : List α} (h : ¬ key x < n) : posL ((x :: xs).map key) n = 0 := by
  unfold posL; rw [List.map_cons, List.takeWhile_cons_of_neg (by simpa using h)]; rfl
theorem up_tail {x : α} {xs : List α} (hu : upS ((x :: xs).map key)) : upS (xs.map key) ∧ ∀ y ∈ xs, key x < key y := by
  unfold upS at *
  rw [List.map_cons, List.pairwise_cons] at hu
  exact ⟨hu.2, fun y hy => hu.1 _ (List.mem_map_of_mem hy)⟩
theorem filt_lt : ∀ {l : List α}, upS (l.map key) → l.filter (fun y => decide (key y < n)) = l.take (posL (l.map key) n)
  | [], _ => by simp
  | x :: xs, hu => by
    obtain ⟨h1, h2⟩ := up_tail hu
    by_cases hx : key x < n
    · rw [posL_cons_lt hx, List.take_succ_cons, List.filter_cons_of_pos (by simpa using hx), filt_lt h1]
    · rw [posL_cons_ge hx, List.take_zero, List.filter_eq_nil_iff]
      intro y hy
      simp only [decide_eq_true_eq]
      rcases List.mem_cons.1 hy with rfl | hy
      · exact hx
      · exact fun h => hx (List.lt_trans (h2 y hy) h)
theorem filt_gt : ∀ {l : List α}, upS (l.map key) → l.filter (fun y => decide (n < key y)) = if n ∈ l.map key then l.drop (posL (l.map key) n + 1) else l.drop (posL (l.map key) n)
  | [], _ => by simp
  | x :: xs, hu => by
    obtain ⟨h1, h2⟩ := up_tail hu
    have ih := filt_gt h1
    rcases lt_or_eq_or_gt (key x) n with hx | hx | hx
    · have hne : n ≠ key x := by rintro e; rw [← e] at hx; exact List.lt_irrefl _ hx
      rw [posL_cons_lt hx, List.filter_cons_of_neg (by simpa using not_lt_of hx), ih]
      by_cases hm : n ∈ xs.map key
      · rw [if_pos hm, if_pos (by rw [List.map_cons]; exact List.mem_cons_of_mem _ hm)]; rfl
      · rw [if_neg hm, if_neg (by rw [List.map_cons, List.mem_cons]; exact fun h => h.elim hne hm)]; rfl
    · have hge : ¬ key x < n := by rw [hx]; exact List.lt_irrefl _
      rw [posL_cons_ge hge, if_pos (by rw [List.map_cons, hx]; exact List.mem_cons_self), List.filter_cons_of_neg (by rw [hx]; simp [List.lt_irrefl n])]
      show _ = xs
      rw [List.filter_eq_self]
      intro y hy
      have := h2 y hy
      rw [hx] at this
      simpa using this
    · have hge : ¬ key x < n := not_lt_of hx
      have hm : n ∉ (x :: xs).map key := by
        rw [List.mem_map]
        rintro ⟨y, hy, rfl⟩
        rcases List.mem_cons.1 hy with rfl | hy
        · exact List.lt_irrefl _ hx
        · exact List.lt_irrefl _ (List.lt_trans hx (h2 y hy))
      rw [posL_cons_ge hge, if_neg hm]
      show _ = x :: xs
      rw [List.filter_eq_self]
      intro y hy
      rcases List.mem_cons.1 hy with rfl | hy
      · simpa using hx
      · simpa using List.lt_trans hx (h2 y hy)
theorem filt_ne : ∀ {l : List α}, upS (l.map key) → l.filter (fun y => !(key y == n)) = l.filter (fun y => decide (key y < n)) ++ l.filter (fun y => decide (n < key y))
  | [], _ => by simp
  | x :: xs, hu => by
    obtain ⟨h1, h2⟩ := up_tail hu
    have ih := filt_ne h1
    rcases lt_or_eq_or_gt (key x) n with hx | hx | hx
    · rw [List.filter_cons_of_pos (by simpa using (beq_of_lt hx).1), ih, List.filter_cons_of_pos (p := fun y => decide (key y < n)) (by simpa using hx), List.filter_cons_of_neg (p := fun y => decide (n < key y)) (by simpa using not_lt_of hx)]
      rfl
    · rw [List.filter_cons_of_neg (by simp [hx]), ih, List.filter_cons_of_neg (p := fun y => decide (key y < n)) (by rw [hx]; simp [List.lt_irrefl n]), List.filter_cons_of_neg (p := fun y => decide (n < key y)) (by rw [hx]; simp [List.lt_irrefl n])]
    · have e : xs.filter (fun y => decide (key y < n)) = [] := by
        rw [List.filter_eq_nil_iff]; intro y hy; simpa using not_lt_of (List.lt_trans hx (h2 y hy))
      rw [List.filter_cons_of_pos (by simpa using (beq_of_lt hx).2), ih, e, List.filter_cons_of_neg (p := fun y => decide (key y < n)) (by simpa using not_lt_of hx), e, List.filter_cons_of_pos (p := fun y => decide (n < key y)) (by simpa using hx)]
      rfl
theorem withK_up {l : List α} {f : α} (hu : upS (l.map key)) : withK key l f = l.take (posL (l.map key) (key f)) ++ f :: (if key f ∈ l.map key then l.drop (posL (l.map key) (key f) + 1) else l.drop (posL (l.map key) (key f))) := by
  unfold withK; rw [filt_lt hu, filt_gt hu]
theorem withoutK_up {l : List α} (hu : upS (l.map key)) : withoutK key l n = l.take (posL (l.map key) n) ++ (if n ∈ l.map key then l.drop (posL (l.map key) n + 1) else l.drop (posL (l.map key) n)) := by
  unfold withoutK; rw [filt_ne hu, filt_lt hu, filt_gt hu]
theorem pos_lt {l : List α} (hu : upS (l.map key)) (h : n ∈ l.map key) : ∃ hk : posL (l.map key) n < l.length, key l[posL (l.map key) n] = n := by
  have h1 := (mem_at_pos hu).1 h
  have hlt : posL (l.map key) n < l.length := by
    have := (List.getElem?_eq_some_iff.1 h1).1; simpa using this
  refine ⟨hlt, ?_⟩
  rw [List.getElem?_eq_getElem (by simpa using hlt), Option.some.injEq] at h1
  simpa using h1
theorem find_up {l : List α} (hu : upS (l.map key)) (h : n ∈ l.map key) : ∃ hk : posL (l.map key) n < l.length, l.find? (fun y => key y == n) = some l[posL (l.map key) n] := by
  obtain ⟨hk, he⟩ := pos_lt hu h
  refine ⟨hk, ?_⟩
  have e : l = l.take (posL (l.map key) n) ++ l[posL (l.map key) n] :: l.drop (posL (l.map key) n + 1) := by simp
  have hn : (l.take (posL (l.map key) n)).find? (fun y => key y == n) = none := by
    rw [← filt_lt hu, List.find?_eq_none]
    intro y hy
    rw [List.mem_filter] at hy
    have := beq_of_lt (show key y < n by simpa using hy.2)
    simpa using this.1
  generalize posL (l.map key) n = k at *
  generalize hy : l[k] = y at *
  rw [e, List.find?_append, hn]
  simp [he]
theorem find_none {l : List α} (h : n ∉ l.map key) : l.find? (fun y => key y == n) = none := by
  rw [List.find?_eq_none]
  intro y hy
  simp only [beq_iff_eq]
  rintro rfl
  exact h (List.mem_map_of_mem hy)
theorem withK_up' {l : List α} {f : α} (hu : upS (l.map key)) : upS ((withK key l f).map key) := by
  unfold upS withK at *
  rw [List.map_append, List.map_cons, List.pairwise_append, List.pairwise_cons]
  have hs1 : (l.filter (fun y => decide (key y < key f))).Sublist l := List.filter_sublist
  have hs2 : (l.filter (fun y => decide (key f < key y))).Sublist l := List.filter_sublist
  refine ⟨hu.sublist (hs1.map key), ⟨?_, hu.sublist (hs2.map key)⟩, ?_⟩
  · intro a ha
    obtain ⟨y, hy, rfl⟩ := List.mem_map.1 ha
    rw [List.mem_filter] at hy
    simpa using hy.2
  · intro a ha b hb
    obtain ⟨y, hy, rfl⟩ := List.mem_map.1 ha
    rw [List.mem_filter] at hy
    have h1 : key y < key f := by simpa using hy.2
    rcases List.mem_cons.1 hb with rfl | hb
    · exact h1
    · obtain ⟨z, hz, rfl⟩ := List.mem_map.1 hb
      rw [List.mem_filter] at hz
      exact List.lt_trans h1 (by simpa using hz.2)
theorem withoutK_up' {l : List α} (hu : upS (l.map key)) : upS ((withoutK key l n).map key) := by
  have hs1 : (l.filter (fun y => !(key y == n))).Sublist l := List.filter_sublist
  exact List.Pairwise.sublist (hs1.map key) hu
end
end Go.Proofs.YtocommjoncchpaaGreatDoor

namespace Go.Proofs.YtocommjoncchpaaGreatDoor
open Go.RowKit

section
variable {α : Type} {key : α → List UInt8}
theorem filt_all {L : List α} {f : α} (h : ∀ x ∈ L, key x < key f) : L.filter (fun y => decide (key y < key f)) = L := by
  rw [List.filter_eq_self]; intro x hx; simpa using h x hx
theorem filt_none {L : List α} {f : α} (h : ∀ x ∈ L, key x < key f) : L.filter (fun y => decide (key f < key y)) = [] := by
  rw [List.filter_eq_nil_iff]; intro x hx; simp only [decide_eq_true_eq]; exact fun h2 => List.lt_asymm (h x hx) h2
theorem with_end {L : List α} {f : α} (h : ∀ x ∈ L, key x < key f) : withK key L f = L ++ [f] := by
  unfold withK
  rw [filt_all h, filt_none h]
theorem with_first {L : List α} {f y : α} (h : ∀ x ∈ L, key x < key f) (hy : ¬ key y < key f) : withK key (L ++ [y]) f = L ++ [f] ++ (if (key y == key f) = true then [] else [y]) := by
  unfold withK
  rw [List.filter_append, List.filter_append, filt_all h, filt_none h]
  by_cases e : key y = key f
  · simp [e, List.lt_irrefl]
  · have hl : key f < key y := by
      by_cases h1 : key f < key y
      · exact h1
      · exact absurd (List.le_antisymm (List.not_lt.1 h1) (List.not_lt.1 hy)) e
    simp [e, hy, hl]
theorem with_more {L : List α} {f y : α} (hy : key f < key y) : withK key (L ++ [y]) f = withK key L f ++ [y] := by
  unfold withK
  rw [List.filter_append, List.filter_append]
  have h2 : ¬ key y < key f := List.lt_asymm hy
  simp [hy, h2]
theorem with_len (L : List α) (f : α) : (withK key L f).length ≤ L.length + 1 := by
  unfold withK
  have h : ∀ L : List α, (L.filter (fun y => decide (key y < key f))).length + (L.filter (fun y => decide (key f < key y))).length ≤ L.length := by
    intro L
    induction L with
    | nil => simp
    | cons x xs ih =>
      by_cases h1 : key x < key f
      · have h2 : ¬ key f < key x := List.lt_asymm h1
        simp [h1, h2]; omega
      · by_cases h2 : key f < key x
        · simp [h1, h2]; omega
        · simp [h1, h2]; omega
  have := h L
  simp only [List.length_append, List.length_cons]; omega
theorem up_last {l : List α} {k : Nat} (hu : upS (l.map key)) (h : k < l.length) : ∀ x ∈ l.take k, key x < key l[k] := by
  intro x hx
  have h2 := hu
  unfold upS at h2
  rw [List.pairwise_map] at h2
  obtain ⟨i, hi, rfl⟩ := List.mem_take_iff_getElem.1 hx
  exact List.pairwise_iff_getElem.1 h2 i k _ h (by omega)
end

theorem own_base {w : World} {B B' e K n : Nat} {v : Value} {xs : List Value} (h : w.ownsRow B e K v n xs) (hB : B' ≤ B) : w.ownsRow B' e K v n xs := by
  obtain ⟨h1, h2⟩ := h
  refine ⟨h1, ?_⟩
  rcases h2 with h2 | ⟨g, cap, cur, hv, hb, h3⟩
  · exact .inl h2
  · exact .inr ⟨g, cap, cur, hv, by omega, h3⟩
end Go.Proofs.YtocommjoncchpaaGreatDoor

namespace Go.Proofs.YtocommjoncchpaaGreatDoor
open Go.RowKit

/-- A set and one more. -/
def addL (l : List (List UInt8)) (k : List UInt8) : List (List UInt8) := if k ∈ l then l else withK id l k
theorem addL_up {l : List (List UInt8)} {k : List UInt8} (hu : upS l) : upS (addL l k) := by
  unfold addL
  split
  · exact hu
  · have h := withK_up' (key := (id : List UInt8 → List UInt8)) (l := l) (f := k) (by simpa using hu)
    simpa using h
theorem addL_mem {l : List (List UInt8)} {k x : List UInt8} : x ∈ addL l k ↔ x = k ∨ x ∈ l := by
  unfold addL
  split
  · rename_i h
    exact ⟨.inr, fun h2 => by rcases h2 with rfl | h2; exact h; exact h2⟩
  · unfold withK
    simp only [List.mem_append, List.mem_filter, List.mem_cons, id, decide_eq_true_eq]
    constructor
    · rintro (⟨h, _⟩ | h | ⟨h, _⟩)
      · exact .inr h
      · exact .inl h
      · exact .inr h
    · rintro (h | h)
      · exact .inr (.inl h)
      · by_cases h1 : x < k
        · exact .inl ⟨h, h1⟩
        · by_cases h2 : k < x
          · exact .inr (.inr ⟨h, h2⟩)
          · exact .inr (.inl (List.le_antisymm (List.not_lt.1 h2) (List.not_lt.1 h1)))
/-- Where the loop stands. -/
def AddSt (l : List (List UInt8)) (k : List UInt8) (n : Nat) (d : Value) (out : List (List UInt8)) : Prop :=
  (d = .bool false ∧ out = l.take n ∧ ∀ x ∈ l.take n, x < k) ∨ (d = .bool true ∧ out = withK id (l.take n) k ∧ ∃ x ∈ l.take n, k < x)
theorem add_start (l : List (List UInt8)) (k : List UInt8) : AddSt l k 0 (.bool false) [] := .inl ⟨rfl, by simp, by simp⟩
theorem add_less {l : List (List UInt8)} {k y : List UInt8} {n : Nat} {out : List (List UInt8)} (h : n < l.length) (hy : l[n] = y) (hs : AddSt l k n (.bool false) out) (hl : y < k) : AddSt l k (n + 1) (.bool false) (out ++ [y]) := by
  rcases hs with ⟨_, h1, h2⟩ | ⟨h1, _⟩
  · refine .inl ⟨rfl, by rw [List.take_succ_eq_append_getElem h, h1, hy], fun x hx => ?_⟩
    rw [List.take_succ_eq_append_getElem h, List.mem_append] at hx
    rcases hx with hx | hx
    · exact h2 x hx
    · simp only [List.mem_singleton] at hx; rw [hx, hy]; exact hl
  · cases h1
theorem add_put {l : List (List UInt8)} {k y : List UInt8} {n : Nat} {out : List (List UInt8)} (h : n < l.length) (hy : l[n] = y) (hs : AddSt l k n (.bool false) out) (hl : k < y) : AddSt l k (n + 1) (.bool true) (out ++ [k] ++ [y]) := by
  rcases hs with ⟨_, h1, h2⟩ | ⟨h1, _⟩
  · refine .inr ⟨rfl, ?_, y, ?_, hl⟩
    · rw [List.take_succ_eq_append_getElem h, h1, hy, with_first (key := id) h2 (fun h3 => List.lt_asymm hl h3), if_neg]
      simp only [id, beq_iff_eq]
      intro e; rw [e] at hl; exact List.lt_irrefl _ hl
    · rw [List.take_succ_eq_append_getElem h, hy]; simp
  · cases h1
theorem add_on {l : List (List UInt8)} {k y : List UInt8} {n : Nat} {out : List (List UInt8)} (hu : upS l) (h : n < l.length) (hy : l[n] = y) (hs : AddSt l k n (.bool true) out) : k < y ∧ AddSt l k (n + 1) (.bool true) (out ++ [y]) := by
  rcases hs with ⟨h1, _⟩ | ⟨_, h1, x, hx, h2⟩
  · cases h1
  · have h3 := up_last (key := id) (by simpa using hu) h x hx
    have h4 : k < y := by
      rw [hy] at h3
      exact List.lt_trans h2 h3
    refine ⟨h4, .inr ⟨rfl, by rw [List.take_succ_eq_append_getElem h, h1, hy, with_more (key := id) h4], x, ?_, h2⟩⟩
    rw [List.take_succ_eq_append_getElem h, List.mem_append]; exact .inl hx
theorem own_mono {w : World} {B C e K n : Nat} {v : Value} {xs : List Value} (hBC : B ≤ C) (h : w.ownsRow C e K v n xs) : w.ownsRow B e K v n xs := by
  obtain ⟨h1, h2⟩ := h
  refine ⟨h1, ?_⟩
  rcases h2 with h2 | ⟨g, cap, cur, rfl, hb, h3⟩
  · exact .inl h2
  · exact .inr ⟨g, cap, cur, rfl, Nat.le_trans hBC hb, h3⟩
theorem s_one (k : List UInt8) : ∀ u ∈ [S k], u.oneCell' = true := by intro u hu; simp at hu; subst hu; rfl
end Go.Proofs.YtocommjoncchpaaGreatDoor
