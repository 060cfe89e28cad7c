/- Rows of two texts each, by the first: find, put in; plain. Numbers as bytes, in plain lists. Numbers and texts as bytes: there and back, in plain lists. -/
import Derived.Test.YtkejdbidomlonaaGreatDoorJPlain
import Derived.Test.YtkejdbidomlonaaGreatDoorRowK
namespace Go.Proofs.YtkejdbidomlonaaGreatDoor

def findR (l : List Snp) (n : List UInt8) : Option (List UInt8) := (l.find? (fun x => x.1 == n)).map (·.2)
def rootOf : Option (List UInt8) → List UInt8 | some r => r | none => []

theorem findR_at {l : List Snp} {n : List UInt8} {k : Nat} (h : k < l.length) (he : l[k].1 = n) (hk : findR (l.take k) n = none) : findR l n = some l[k].2 := by
  unfold findR at hk ⊢
  rw [Option.map_eq_none_iff] at hk
  have e : l = l.take k ++ l[k] :: l.drop (k + 1) := by simp
  generalize l[k] = y at e he ⊢
  rw [e, List.find?_append, hk]
  simp [he]
theorem findR_step {l : List Snp} {n : List UInt8} {k : Nat} (h : k < l.length) (he : l[k].1 ≠ n) (hk : findR (l.take k) n = none) : findR (l.take (k + 1)) n = none := by
  unfold findR at hk ⊢
  rw [Option.map_eq_none_iff] at hk ⊢
  rw [List.take_succ_eq_append_getElem h, List.find?_append, hk]
  simp [he]

def insR (l : List Snp) (x : Snp) : List Snp := l.takeWhile (fun y => !decide (x.1 < y.1)) ++ x :: l.dropWhile (fun y => !decide (x.1 < y.1))
/-- Put's round: nothing behind x seen so far, or x put. -/
theorem ins_wait {l : List Snp} {x : Snp} {k : Nat} (h : k < l.length) (ha : ∀ y ∈ l.take k, ¬ x.1 < y.1) (hn : ¬ x.1 < l[k].1) : ∀ y ∈ l.take (k + 1), ¬ x.1 < y.1 := by
  intro y hy
  rw [List.take_succ_eq_append_getElem h, List.mem_append] at hy
  rcases hy with hy | hy
  · exact ha y hy
  · simp at hy; rw [hy]; exact hn
theorem ins_now {l : List Snp} {x : Snp} {k : Nat} (h : k < l.length) (ha : ∀ y ∈ l.take k, ¬ x.1 < y.1) (hn : x.1 < l[k].1) : insR l x = (l.take k ++ [x]) ++ l.drop k := by
  have e : l = l.take k ++ l[k] :: l.drop (k + 1) := by simp
  have e2 : l.drop k = l[k] :: l.drop (k + 1) := List.drop_eq_getElem_cons h
  rw [e2]
  generalize l[k] = z at *
  clear h
  generalize l.take k = A at *
  generalize l.drop (k + 1) = B at *
  unfold insR
  rw [e, List.takeWhile_append_of_pos (by intro y hy; simpa using ha y (by simpa using hy)), List.dropWhile_append_of_pos (by intro y hy; simpa using ha y (by simpa using hy))]
  simp [hn]
theorem ins_end {l : List Snp} {x : Snp} (ha : ∀ y ∈ l, ¬ x.1 < y.1) : insR l x = l ++ [x] := by
  have h1 := List.takeWhile_append_of_pos (p := fun y : Snp => !decide (x.1 < y.1)) (l₁ := l) (l₂ := []) (by intro y hy; simpa using ha y hy)
  have h2 := List.dropWhile_append_of_pos (p := fun y : Snp => !decide (x.1 < y.1)) (l₁ := l) (l₂ := []) (by intro y hy; simpa using ha y hy)
  rw [List.append_nil] at h1 h2
  unfold insR
  rw [h1, h2]
  simp

def namesR (l : List Snp) : List (List UInt8) := l.map (·.1)
theorem namesR_len (l : List Snp) : (namesR l).length = l.length := by simp [namesR]
theorem findR_none {l : List Snp} {n : List UInt8} (h : n ∉ namesR l) : findR l n = none := by
  unfold findR namesR at *
  rw [Option.map_eq_none_iff, List.find?_eq_none]
  intro x hx
  simp only [beq_iff_eq]
  rintro rfl
  exact h (List.mem_map_of_mem hx)
theorem findR_pos {l : List Snp} {n : List UInt8} (hu : upS (namesR l)) (h : n ∈ namesR l) : ∃ hk : posL (namesR l) n < l.length, findR l n = some l[posL (namesR l) n].2 := by
  have h1 := (mem_at_pos hu).1 h
  have hlt : posL (namesR l) n < l.length := by
    have := (List.getElem?_eq_some_iff.1 h1).1
    rwa [namesR_len] at this
  have h2 : l[posL (namesR l) n].1 = n := by
    rw [List.getElem?_eq_getElem (by rw [namesR_len]; exact hlt), Option.some.injEq] at h1
    simpa [namesR] using h1
  refine ⟨hlt, findR_at hlt h2 ?_⟩
  unfold findR
  rw [Option.map_eq_none_iff, List.find?_eq_none]
  intro x hx
  simp only [beq_iff_eq]
  rintro he
  obtain ⟨j, hj, rfl⟩ := List.mem_iff_getElem.1 hx
  rw [List.length_take] at hj
  rw [List.getElem_take] at he
  have hp := List.pairwise_iff_getElem.1 hu j (posL (namesR l) n) (by rw [namesR_len]; omega) (by rw [namesR_len]; exact hlt) (by omega)
  simp only [namesR, List.getElem_map] at hp
  rw [he] at hp
  simp only [namesR] at h2
  rw [h2] at hp
  exact List.lt_irrefl _ hp

theorem takeWhile_len {α : Type} (p : α → Bool) (l : List α) : l.take (l.takeWhile p).length = l.takeWhile p ∧ l.drop (l.takeWhile p).length = l.dropWhile p := by
  have h := List.takeWhile_append_dropWhile (p := p) (l := l)
  generalize l.takeWhile p = A at *
  generalize l.dropWhile p = D at *
  subst h
  simp
theorem insR_pos {l : List Snp} {x : Snp} (h : x.1 ∉ namesR l) : insR l x = l.take (posL (namesR l) x.1) ++ x :: l.drop (posL (namesR l) x.1) := by
  have hc : ∀ y ∈ l, (fun y : Snp => decide (y.1 < x.1)) y = (fun y : Snp => !decide (x.1 < y.1)) y := by
    intro y hy
    have hne : y.1 ≠ x.1 := by rintro e; exact h (e ▸ List.mem_map_of_mem hy)
    rcases lt_or_eq_or_gt y.1 x.1 with h1 | h1 | h1
    · simp [h1, not_lt_of h1]
    · exact absurd h1 hne
    · simp [h1, not_lt_of h1]
  have hp : posL (namesR l) x.1 = (l.takeWhile (fun y : Snp => !decide (x.1 < y.1))).length := by
    unfold posL namesR
    rw [List.takeWhile_map, List.length_map]
    congr 1
    clear h
    induction l with
    | nil => rfl
    | cons y l ih =>
      have h1 := hc y List.mem_cons_self
      simp only at h1
      simp only [List.takeWhile_cons, Function.comp, h1]
      split
      · rw [ih (fun z hz => hc z (List.mem_cons_of_mem _ hz))]
      · rfl
  obtain ⟨h1, h2⟩ := takeWhile_len (fun y : Snp => !decide (x.1 < y.1)) l
  unfold insR
  rw [hp, h1, h2]
theorem flat_ins (l : List Snp) (x : Snp) (k : Nat) : (l.flatMap snpC).take (k * 2) ++ (snpC x ++ (l.flatMap snpC).drop (k * 2)) = (l.take k ++ x :: l.drop k).flatMap snpC := by
  rw [flat_take (K := 2) (fun _ => rfl), flat_drop (K := 2) (fun _ => rfl), List.flatMap_append, List.flatMap_cons]
/-- How many bytes there are. -/
def rawsL (o : List Snp) : Nat := (o.map (fun x : Snp => x.2.length)).sum
theorem rawsL_step {l : List Snp} {k : Nat} (h : k < l.length) : rawsL (l.take (k + 1)) = rawsL (l.take k) + l[k].2.length := by
  unfold rawsL
  rw [List.take_succ_eq_append_getElem h, List.map_append, List.sum_append]; simp
end Go.Proofs.YtkejdbidomlonaaGreatDoor

namespace Go.Proofs.YtkejdbidomlonaaGreatDoor

/-- A number as bytes. -/
def putV (n : Nat) : List UInt8 := if n < 128 then [UInt8.ofNat n] else UInt8.ofNat (n % 128 + 128) :: putV (n / 128)
termination_by n
decreasing_by omega

/-- The number that bytes begin with, how many they are, what is wrong: from byte i on, acc so far. -/
def takeGo : Nat → Nat → List UInt8 → Nat × Nat × Int
  | _, _, [] => (0, 0, 1)
  | i, acc, c :: cs =>
    if i = 9 ∧ 1 < c.toNat then (0, 0, 4)
    else if c.toNat < 128 then (if c.toNat = 0 ∧ 0 < i then (0, 0, 2) else (acc + c.toNat % 128 * 2 ^ (7 * i), i + 1, 0))
    else takeGo (i + 1) (acc + c.toNat % 128 * 2 ^ (7 * i)) cs
def takeV (l : List UInt8) : Nat × Nat × Int := takeGo 0 0 l

def putText (l : List UInt8) : List UInt8 := if 65536 < l.length then [] else putV l.length ++ l
def takeText (l : List UInt8) : List UInt8 × Nat × Int :=
  if (takeV l).2.2 ≠ 0 then ([], 0, (takeV l).2.2)
  else if 65536 < (takeV l).1 then ([], 0, 4)
  else if l.length - (takeV l).2.1 < (takeV l).1 then ([], 0, 1)
  else (cutL l (takeV l).2.1 ((takeV l).2.1 + (takeV l).1), (takeV l).2.1 + (takeV l).1, 0)

theorem putV_small {n : Nat} (h : n < 128) : putV n = [UInt8.ofNat n] := by rw [putV, if_pos h]
theorem putV_big {n : Nat} (h : ¬ n < 128) : putV n = UInt8.ofNat (n % 128 + 128) :: putV (n / 128) := by rw [putV, if_neg h]

theorem takeGo_end {l : List UInt8} {i acc : Nat} (h : l.length ≤ i) : takeGo i acc (l.drop i) = (0, 0, 1) := by
  rw [List.drop_eq_nil_of_le h]; rfl
theorem takeGo_at {l : List UInt8} {i acc : Nat} (h : i < l.length) : takeGo i acc (l.drop i) =
    if i = 9 ∧ 1 < l[i].toNat then (0, 0, 4)
    else if l[i].toNat < 128 then (if l[i].toNat = 0 ∧ 0 < i then (0, 0, 2) else (acc + l[i].toNat % 128 * 2 ^ (7 * i), i + 1, 0))
    else takeGo (i + 1) (acc + l[i].toNat % 128 * 2 ^ (7 * i)) (l.drop (i + 1)) := by
  rw [List.drop_eq_getElem_cons h]; rfl

theorem acc_bound {i acc d : Nat} (h9 : i ≤ 9) (ha : acc < 2 ^ (7 * i)) (hd : d < 128) (h1 : i = 9 → d ≤ 1) : acc + d * 2 ^ (7 * i) < 2 ^ 64 ∧ d * 2 ^ (7 * i) < 2 ^ 64 ∧ (i < 9 → acc + d * 2 ^ (7 * i) < 2 ^ (7 * (i + 1))) := by
  have : i = 0 ∨ i = 1 ∨ i = 2 ∨ i = 3 ∨ i = 4 ∨ i = 5 ∨ i = 6 ∨ i = 7 ∨ i = 8 ∨ i = 9 := by omega
  rcases this with rfl | rfl | rfl | rfl | rfl | rfl | rfl | rfl | rfl | rfl <;> simp at ha ⊢ <;> (try have := h1 rfl) <;> omega

/-- What was taken lies in the bytes, and is a word. -/
theorem takeGo_ok : ∀ (l : List UInt8) (i acc : Nat), i ≤ 9 → acc < 2 ^ (7 * i) → (takeGo i acc l).2.2 = 0 → (takeGo i acc l).2.1 ≤ i + l.length ∧ i < (takeGo i acc l).2.1 ∧ (takeGo i acc l).1 < 2 ^ 64
  | [], i, acc, _, _, h => by simp [takeGo] at h
  | c :: cs, i, acc, h9, ha, h => by
    unfold takeGo at h ⊢
    by_cases h1 : i = 9 ∧ 1 < c.toNat
    · rw [if_pos h1] at h; simp at h
    rw [if_neg h1] at h ⊢
    have hb := acc_bound (d := c.toNat % 128) h9 ha (by omega) (by intro e; have : ¬ 1 < c.toNat := fun hh => h1 ⟨e, hh⟩; omega)
    by_cases h2 : c.toNat < 128
    · rw [if_pos h2] at h ⊢
      by_cases h3 : c.toNat = 0 ∧ 0 < i
      · rw [if_pos h3] at h; simp at h
      · rw [if_neg h3]
        exact ⟨by simp, by simp, hb.1⟩
    · rw [if_neg h2] at h ⊢
      have hi : i < 9 := by
        rcases Nat.lt_or_ge i 9 with hi | hi
        · exact hi
        · exfalso; exact h1 ⟨by omega, by omega⟩
      have := takeGo_ok cs (i + 1) _ (by omega) (hb.2.2 hi) h
      simp only [List.length_cons]
      exact ⟨by omega, by omega, this.2.2⟩
theorem takeV_ok {l : List UInt8} (h : (takeV l).2.2 = 0) : (takeV l).2.1 ≤ l.length ∧ 0 < (takeV l).2.1 ∧ (takeV l).1 < 2 ^ 64 := by
  have := takeGo_ok l 0 0 (by omega) (by simp) h
  rw [Nat.zero_add] at this
  exact this
theorem takeV_small {c : UInt8} {l : List UInt8} (h : c.toNat < 128) : takeV (c :: l) = (c.toNat, 1, 0) := by
  unfold takeV takeGo
  rw [if_neg (by omega), if_pos h, if_neg (by omega)]
  simp
  omega

theorem putV_step {n0 n : Nat} {out : List UInt8} (h : putV n0 = out ++ putV n) (hn : ¬ n < 128) : putV n0 = (out ++ [UInt8.ofNat (n % 128 + 128)]) ++ putV (n / 128) := by
  rw [h, putV_big hn, List.append_assoc]; rfl
theorem putV_last {n0 n : Nat} {out : List UInt8} (h : putV n0 = out ++ putV n) (hn : n < 128) : putV n0 = out ++ [UInt8.ofNat n] := by
  rw [h, putV_small hn]
theorem putV_room {n k : Nat} (hk : k ≤ 9) (hn : n < 2 ^ (64 - 7 * k)) (hb : 128 ≤ n) : k < 9 ∧ n / 128 < 2 ^ (64 - 7 * (k + 1)) := by
  have : k = 0 ∨ k = 1 ∨ k = 2 ∨ k = 3 ∨ k = 4 ∨ k = 5 ∨ k = 6 ∨ k = 7 ∨ k = 8 ∨ k = 9 := by omega
  rcases this with rfl | rfl | rfl | rfl | rfl | rfl | rfl | rfl | rfl | rfl <;> simp at hn ⊢ <;> omega
theorem putV_word {n k : Nat} (hk : k ≤ 9) (hn : n < 2 ^ (64 - 7 * k)) : n < 2 ^ 64 :=
  Nat.lt_of_lt_of_le hn (Nat.pow_le_pow_right (by omega) (by omega))

theorem putV_len' : ∀ (d k n : Nat), d + k = 9 → n < 2 ^ (64 - 7 * k) → (putV n).length + k ≤ 10
  | 0, k, n, hd, hn => by
    obtain rfl : k = 9 := by omega
    rw [putV_small (by simp at hn; omega)]
    simp
  | d + 1, k, n, hd, hn => by
    by_cases h : n < 128
    · rw [putV_small h]; simp; omega
    · obtain ⟨h1, h2⟩ := putV_room (by omega) hn (by omega)
      have := putV_len' d (k + 1) (n / 128) (by omega) h2
      rw [putV_big h]
      simp only [List.length_cons]
      omega
theorem putV_len {n : Nat} (h : n < 2 ^ 64) : (putV n).length ≤ 10 := putV_len' 9 0 n rfl (by simpa using h)

theorem takeText_ok {l : List UInt8} (h : (takeText l).2.2 = 0) : (takeText l).2.1 ≤ l.length ∧ (takeText l).1.length ≤ l.length := by
  unfold takeText at h ⊢
  by_cases h1 : (takeV l).2.2 ≠ 0
  · rw [if_pos h1] at h; exact absurd h h1
  rw [if_neg h1] at h ⊢
  by_cases h2 : 65536 < (takeV l).1
  · rw [if_pos h2] at h; simp at h
  rw [if_neg h2] at h ⊢
  by_cases h3 : l.length - (takeV l).2.1 < (takeV l).1
  · rw [if_pos h3] at h; simp at h
  rw [if_neg h3]
  have := takeV_ok (l := l) (by simpa using h1)
  simp only [cutL, List.length_drop, List.length_take]
  omega
end Go.Proofs.YtkejdbidomlonaaGreatDoor

namespace Go.Proofs.YtkejdbidomlonaaGreatDoor

theorem takeGo_put : ∀ (d i acc n : Nat) (rest : List UInt8), d + i = 9 → n < 2 ^ (64 - 7 * i) → ¬ (n = 0 ∧ 0 < i) → takeGo i acc (putV n ++ rest) = (acc + n * 2 ^ (7 * i), i + (putV n).length, 0)
  | d, i, acc, n, rest, hd, hn, hz => by
    by_cases h : n < 128
    · have hc : (UInt8.ofNat n).toNat = n := by simp; omega
      rw [putV_small h]
      simp only [List.cons_append, List.nil_append, List.length_singleton]
      rw [takeGo, hc, if_neg, if_pos h, if_neg hz, Nat.mod_eq_of_lt h]
      rintro ⟨rfl, h1⟩
      simp at hn
      omega
    · have hr := putV_room (n := n) (k := i) (by omega) hn (by omega)
      have hc : (UInt8.ofNat (n % 128 + 128)).toNat = n % 128 + 128 := by simp; omega
      rw [putV_big h]
      simp only [List.cons_append, List.length_cons]
      match d, hd with
      | 0, hd => omega
      | d + 1, hd =>
        rw [takeGo, hc, if_neg (by omega), if_neg (by omega), takeGo_put d (i + 1) _ (n / 128) rest (by omega) hr.2 (by omega)]
        have e1 : (n % 128 + 128) % 128 = n % 128 := by omega
        have e2 : 2 ^ (7 * (i + 1)) = 128 * 2 ^ (7 * i) := by rw [Nat.mul_add, Nat.mul_one, Nat.pow_add, Nat.mul_comm]
        rw [e1, e2]
        have e3 : n * 2 ^ (7 * i) = n % 128 * 2 ^ (7 * i) + n / 128 * (128 * 2 ^ (7 * i)) := by
          rw [← Nat.mul_assoc, ← Nat.add_mul]; congr 1; omega
        rw [e3]
        refine Prod.ext ?_ (Prod.ext ?_ rfl)
        · simp only; omega
        · simp only; omega
theorem takeV_put {n : Nat} (h : n < 2 ^ 64) (rest : List UInt8) : takeV (putV n ++ rest) = (n, (putV n).length, 0) := by
  unfold takeV
  rw [takeGo_put 9 0 0 n rest rfl (by simpa using h) (by omega)]
  simp
theorem takeText_put {t : List UInt8} (h : t.length ≤ 65536) (rest : List UInt8) : takeText (putText t ++ rest) = (t, (putText t).length, 0) := by
  have e : putText t = putV t.length ++ t := by unfold putText; rw [if_neg (by omega)]
  have h1 : takeV (putText t ++ rest) = (t.length, (putV t.length).length, 0) := by
    rw [e, List.append_assoc, takeV_put (by omega)]
  unfold takeText
  rw [h1]
  simp only
  rw [if_neg (by simp), if_neg (by omega), if_neg (by rw [e]; simp)]
  refine Prod.ext ?_ (Prod.ext ?_ rfl)
  · simp only [cutL]
    rw [e, List.append_assoc, List.take_append, List.take_of_length_le (by omega), List.drop_append, List.drop_eq_nil_of_le (by omega)]
    simp
  · simp only [e, List.length_append]
end Go.Proofs.YtkejdbidomlonaaGreatDoor
