/- Rows of two texts each, by the first: find, put in; plain. Numbers as bytes, in plain lists. Numbers and texts as bytes: there and back, in plain lists. Nodes and their bytes, in plain words. No program in sight. -/
import Derived.Test.YtkejdbidomlonaaGreatDoorJPlain
import Derived.Test.YtkejdbidomlonaaGreatDoorRowK
namespace Go.Proofs.YtkejdbidomlonaaGreatDoor

def findR (l : List Snp) (n : List UInt8) : Option (List UInt8) := (l.find? (fun x => x.1 == n)).map (·.2)
def rootOf : Option (List UInt8) → List UInt8 | some r => r | none => []

theorem findR_at {l : List Snp} {n : List UInt8} {k : Nat} (h : k < l.length) (he : l[k].1 = n) (hk : findR (l.take k) n = none) : findR l n = some l[k].2 := by
  unfold findR at hk ⊢
  rw [Option.map_eq_none_iff] at hk
  have e : l = l.take k ++ l[k] :: l.drop (k + 1) := by simp
  generalize l[k] = y at e he ⊢
  rw [e, List.find?_append, hk]
  simp [he]
theorem findR_step {l : List Snp} {n : List UInt8} {k : Nat} (h : k < l.length) (he : l[k].1 ≠ n) (hk : findR (l.take k) n = none) : findR (l.take (k + 1)) n = none := by
  unfold findR at hk ⊢
  rw [Option.map_eq_none_iff] at hk ⊢
  rw [List.take_succ_eq_append_getElem h, List.find?_append, hk]
  simp [he]

def insR (l : List Snp) (x : Snp) : List Snp := l.takeWhile (fun y => !decide (x.1 < y.1)) ++ x :: l.dropWhile (fun y => !decide (x.1 < y.1))
/-- Put's round: nothing behind x seen so far, or x put. -/
theorem ins_wait {l : List Snp} {x : Snp} {k : Nat} (h : k < l.length) (ha : ∀ y ∈ l.take k, ¬ x.1 < y.1) (hn : ¬ x.1 < l[k].1) : ∀ y ∈ l.take (k + 1), ¬ x.1 < y.1 := by
  intro y hy
  rw [List.take_succ_eq_append_getElem h, List.mem_append] at hy
  rcases hy with hy | hy
  · exact ha y hy
  · simp at hy; rw [hy]; exact hn
theorem ins_now {l : List Snp} {x : Snp} {k : Nat} (h : k < l.length) (ha : ∀ y ∈ l.take k, ¬ x.1 < y.1) (hn : x.1 < l[k].1) : insR l x = (l.take k ++ [x]) ++ l.drop k := by
  have e : l = l.take k ++ l[k] :: l.drop (k + 1) := by simp
  have e2 : l.drop k = l[k] :: l.drop (k + 1) := List.drop_eq_getElem_cons h
  rw [e2]
  generalize l[k] = z at *
  clear h
  generalize l.take k = A at *
  generalize l.drop (k + 1) = B at *
  unfold insR
  rw [e, List.takeWhile_append_of_pos (by intro y hy; simpa using ha y (by simpa using hy)), List.dropWhile_append_of_pos (by intro y hy; simpa using ha y (by simpa using hy))]
  simp [hn]
theorem ins_end {l : List Snp} {x : Snp} (ha : ∀ y ∈ l, ¬ x.1 < y.1) : insR l x = l ++ [x] := by
  have h1 := List.takeWhile_append_of_pos (p := fun y : Snp => !decide (x.1 < y.1)) (l₁ := l) (l₂ := []) (by intro y hy; simpa using ha y hy)
  have h2 := List.dropWhile_append_of_pos (p := fun y : Snp => !decide (x.1 < y.1)) (l₁ := l) (l₂ := []) (by intro y hy; simpa using ha y hy)
  rw [List.append_nil] at h1 h2
  unfold insR
  rw [h1, h2]
  simp

def namesR (l : List Snp) : List (List UInt8) := l.map (·.1)
theorem namesR_len (l : List Snp) : (namesR l).length = l.length := by simp [namesR]
theorem findR_none {l : List Snp} {n : List UInt8} (h : n ∉ namesR l) : findR l n = none := by
  unfold findR namesR at *
  rw [Option.map_eq_none_iff, List.find?_eq_none]
  intro x hx
  simp only [beq_iff_eq]
  rintro rfl
  exact h (List.mem_map_of_mem hx)
theorem findR_pos {l : List Snp} {n : List UInt8} (hu : upS (namesR l)) (h : n ∈ namesR l) : ∃ hk : posL (namesR l) n < l.length, findR l n = some l[posL (namesR l) n].2 := by
  have h1 := (mem_at_pos hu).1 h
  have hlt : posL (namesR l) n < l.length := by
    have := (List.getElem?_eq_some_iff.1 h1).1
    rwa [namesR_len] at this
  have h2 : l[posL (namesR l) n].1 = n := by
    rw [List.getElem?_eq_getElem (by rw [namesR_len]; exact hlt), Option.some.injEq] at h1
    simpa [namesR] using h1
  refine ⟨hlt, findR_at hlt h2 ?_⟩
  unfold findR
  rw [Option.map_eq_none_iff, List.find?_eq_none]
  intro x hx
  simp only [beq_iff_eq]
  rintro he
  obtain ⟨j, hj, rfl⟩ := List.mem_iff_getElem.1 hx
  rw [List.length_take] at hj
  rw [List.getElem_take] at he
  have hp := List.pairwise_iff_getElem.1 hu j (posL (namesR l) n) (by rw [namesR_len]; omega) (by rw [namesR_len]; exact hlt) (by omega)
  simp only [namesR, List.getElem_map] at hp
  rw [he] at hp
  simp only [namesR] at h2
  rw [h2] at hp
  exact List.lt_irrefl _ hp

theorem takeWhile_len {α : Type} (p : α → Bool) (l : List α) : l.take (l.takeWhile p).length = l.takeWhile p ∧ l.drop (l.takeWhile p).length = l.dropWhile p := by
  have h := List.takeWhile_append_dropWhile (p := p) (l := l)
  generalize l.takeWhile p = A at *
  generalize l.dropWhile p = D at *
  subst h
  simp
theorem insR_pos {l : List Snp} {x : Snp} (h : x.1 ∉ namesR l) : insR l x = l.take (posL (namesR l) x.1) ++ x :: l.drop (posL (namesR l) x.1) := by
  have hc : ∀ y ∈ l, (fun y : Snp => decide (y.1 < x.1)) y = (fun y : Snp => !decide (x.1 < y.1)) y := by
    intro y hy
    have hne : y.1 ≠ x.1 := by rintro e; exact h (e ▸ List.mem_map_of_mem hy)
    rcases lt_or_eq_or_gt y.1 x.1 with h1 | h1 | h1
    · simp [h1, not_lt_of h1]
    · exact absurd h1 hne
    · simp [h1, not_lt_of h1]
  have hp : posL (namesR l) x.1 = (l.takeWhile (fun y : Snp => !decide (x.1 < y.1))).length := by
    unfold posL namesR
    rw [List.takeWhile_map, List.length_map]
    congr 1
    clear h
    induction l with
    | nil => rfl
    | cons y l ih =>
      have h1 := hc y List.mem_cons_self
      simp only at h1
      simp only [List.takeWhile_cons, Function.comp, h1]
      split
      · rw [ih (fun z hz => hc z (List.mem_cons_of_mem _ hz))]
      · rfl
  obtain ⟨h1, h2⟩ := takeWhile_len (fun y : Snp => !decide (x.1 < y.1)) l
  unfold insR
  rw [hp, h1, h2]
theorem flat_ins (l : List Snp) (x : Snp) (k : Nat) : (l.flatMap snpC).take (k * 2) ++ (snpC x ++ (l.flatMap snpC).drop (k * 2)) = (l.take k ++ x :: l.drop k).flatMap snpC := by
  rw [flat_take (K := 2) (fun _ => rfl), flat_drop (K := 2) (fun _ => rfl), List.flatMap_append, List.flatMap_cons]
/-- How many bytes there are. -/
def rawsL (o : List Snp) : Nat := (o.map (fun x : Snp => x.2.length)).sum
theorem rawsL_step {l : List Snp} {k : Nat} (h : k < l.length) : rawsL (l.take (k + 1)) = rawsL (l.take k) + l[k].2.length := by
  unfold rawsL
  rw [List.take_succ_eq_append_getElem h, List.map_append, List.sum_append]; simp
end Go.Proofs.YtkejdbidomlonaaGreatDoor

namespace Go.Proofs.YtkejdbidomlonaaGreatDoor

/-- A number as bytes. -/
def putV (n : Nat) : List UInt8 := if n < 128 then [UInt8.ofNat n] else UInt8.ofNat (n % 128 + 128) :: putV (n / 128)
termination_by n
decreasing_by omega

/-- The number that bytes begin with, how many they are, what is wrong: from byte i on, acc so far. -/
def takeGo : Nat → Nat → List UInt8 → Nat × Nat × Int
  | _, _, [] => (0, 0, 1)
  | i, acc, c :: cs =>
    if i = 9 ∧ 1 < c.toNat then (0, 0, 4)
    else if c.toNat < 128 then (if c.toNat = 0 ∧ 0 < i then (0, 0, 2) else (acc + c.toNat % 128 * 2 ^ (7 * i), i + 1, 0))
    else takeGo (i + 1) (acc + c.toNat % 128 * 2 ^ (7 * i)) cs
def takeV (l : List UInt8) : Nat × Nat × Int := takeGo 0 0 l

def putText (l : List UInt8) : List UInt8 := if 65536 < l.length then [] else putV l.length ++ l
def takeText (l : List UInt8) : List UInt8 × Nat × Int :=
  if (takeV l).2.2 ≠ 0 then ([], 0, (takeV l).2.2)
  else if 65536 < (takeV l).1 then ([], 0, 4)
  else if l.length - (takeV l).2.1 < (takeV l).1 then ([], 0, 1)
  else (cutL l (takeV l).2.1 ((takeV l).2.1 + (takeV l).1), (takeV l).2.1 + (takeV l).1, 0)

theorem putV_small {n : Nat} (h : n < 128) : putV n = [UInt8.ofNat n] := by rw [putV, if_pos h]
theorem putV_big {n : Nat} (h : ¬ n < 128) : putV n = UInt8.ofNat (n % 128 + 128) :: putV (n / 128) := by rw [putV, if_neg h]

theorem takeGo_end {l : List UInt8} {i acc : Nat} (h : l.length ≤ i) : takeGo i acc (l.drop i) = (0, 0, 1) := by
  rw [List.drop_eq_nil_of_le h]; rfl
theorem takeGo_at {l : List UInt8} {i acc : Nat} (h : i < l.length) : takeGo i acc (l.drop i) =
    if i = 9 ∧ 1 < l[i].toNat then (0, 0, 4)
    else if l[i].toNat < 128 then (if l[i].toNat = 0 ∧ 0 < i then (0, 0, 2) else (acc + l[i].toNat % 128 * 2 ^ (7 * i), i + 1, 0))
    else takeGo (i + 1) (acc + l[i].toNat % 128 * 2 ^ (7 * i)) (l.drop (i + 1)) := by
  rw [List.drop_eq_getElem_cons h]; rfl

theorem acc_bound {i acc d : Nat} (h9 : i ≤ 9) (ha : acc < 2 ^ (7 * i)) (hd : d < 128) (h1 : i = 9 → d ≤ 1) : acc + d * 2 ^ (7 * i) < 2 ^ 64 ∧ d * 2 ^ (7 * i) < 2 ^ 64 ∧ (i < 9 → acc + d * 2 ^ (7 * i) < 2 ^ (7 * (i + 1))) := by
  have : i = 0 ∨ i = 1 ∨ i = 2 ∨ i = 3 ∨ i = 4 ∨ i = 5 ∨ i = 6 ∨ i = 7 ∨ i = 8 ∨ i = 9 := by omega
  rcases this with rfl | rfl | rfl | rfl | rfl | rfl | rfl | rfl | rfl | rfl <;> simp at ha ⊢ <;> (try have := h1 rfl) <;> omega

/-- What was taken lies in the bytes, and is a word. -/
theorem takeGo_ok : ∀ (l : List UInt8) (i acc : Nat), i ≤ 9 → acc < 2 ^ (7 * i) → (takeGo i acc l).2.2 = 0 → (takeGo i acc l).2.1 ≤ i + l.length ∧ i < (takeGo i acc l).2.1 ∧ (takeGo i acc l).1 < 2 ^ 64
  | [], i, acc, _, _, h => by simp [takeGo] at h
  | c :: cs, i, acc, h9, ha, h => by
    unfold takeGo at h ⊢
    by_cases h1 : i = 9 ∧ 1 < c.toNat
    · rw [if_pos h1] at h; simp at h
    rw [if_neg h1] at h ⊢
    have hb := acc_bound (d := c.toNat % 128) h9 ha (by omega) (by intro e; have : ¬ 1 < c.toNat := fun hh => h1 ⟨e, hh⟩; omega)
    by_cases h2 : c.toNat < 128
    · rw [if_pos h2] at h ⊢
      by_cases h3 : c.toNat = 0 ∧ 0 < i
      · rw [if_pos h3] at h; simp at h
      · rw [if_neg h3]
        exact ⟨by simp, by simp, hb.1⟩
    · rw [if_neg h2] at h ⊢
      have hi : i < 9 := by
        rcases Nat.lt_or_ge i 9 with hi | hi
        · exact hi
        · exfalso; exact h1 ⟨by omega, by omega⟩
      have := takeGo_ok cs (i + 1) _ (by omega) (hb.2.2 hi) h
      simp only [List.length_cons]
      exact ⟨by omega, by omega, this.2.2⟩
theorem takeV_ok {l : List UInt8} (h : (takeV l).2.2 = 0) : (takeV l).2.1 ≤ l.length ∧ 0 < (takeV l).2.1 ∧ (takeV l).1 < 2 ^ 64 := by
  have := takeGo_ok l 0 0 (by omega) (by simp) h
  rw [Nat.zero_add] at this
  exact this
theorem takeV_small {c : UInt8} {l : List UInt8} (h : c.toNat < 128) : takeV (c :: l) = (c.toNat, 1, 0) := by
  unfold takeV takeGo
  rw [if_neg (by omega), if_pos h, if_neg (by omega)]
  simp
  omega

theorem putV_step {n0 n : Nat} {out : List UInt8} (h : putV n0 = out ++ putV n) (hn : ¬ n < 128) : putV n0 = (out ++ [UInt8.ofNat (n % 128 + 128)]) ++ putV (n / 128) := by
  rw [h, putV_big hn, List.append_assoc]; rfl
theorem putV_last {n0 n : Nat} {out : List UInt8} (h : putV n0 = out ++ putV n) (hn : n < 128) : putV n0 = out ++ [UInt8.ofNat n] := by
  rw [h, putV_small hn]
theorem putV_room {n k : Nat} (hk : k ≤ 9) (hn : n < 2 ^ (64 - 7 * k)) (hb : 128 ≤ n) : k < 9 ∧ n / 128 < 2 ^ (64 - 7 * (k + 1)) := by
  have : k = 0 ∨ k = 1 ∨ k = 2 ∨ k = 3 ∨ k = 4 ∨ k = 5 ∨ k = 6 ∨ k = 7 ∨ k = 8 ∨ k = 9 := by omega
  rcases this with rfl | rfl | rfl | rfl | rfl | rfl | rfl | rfl | rfl | rfl <;> simp at hn ⊢ <;> omega
theorem putV_word {n k : Nat} (hk : k ≤ 9) (hn : n < 2 ^ (64 - 7 * k)) : n < 2 ^ 64 :=
  Nat.lt_of_lt_of_le hn (Nat.pow_le_pow_right (by omega) (by omega))

theorem putV_len' : ∀ (d k n : Nat), d + k = 9 → n < 2 ^ (64 - 7 * k) → (putV n).length + k ≤ 10
  | 0, k, n, hd, hn => by
    obtain rfl : k = 9 := by omega
    rw [putV_small (by simp at hn; omega)]
    simp
  | d + 1, k, n, hd, hn => by
    by_cases h : n < 128
    · rw [putV_small h]; simp; omega
    · obtain ⟨h1, h2⟩ := putV_room (by omega) hn (by omega)
      have := putV_len' d (k + 1) (n / 128) (by omega) h2
      rw [putV_big h]
      simp only [List.length_cons]
      omega
theorem putV_len {n : Nat} (h : n < 2 ^ 64) : (putV n).length ≤ 10 := putV_len' 9 0 n rfl (by simpa using h)

theorem takeText_ok {l : List UInt8} (h : (takeText l).2.2 = 0) : (takeText l).2.1 ≤ l.length ∧ (takeText l).1.length ≤ l.length := by
  unfold takeText at h ⊢
  by_cases h1 : (takeV l).2.2 ≠ 0
  · rw [if_pos h1] at h; exact absurd h h1
  rw [if_neg h1] at h ⊢
  by_cases h2 : 65536 < (takeV l).1
  · rw [if_pos h2] at h; simp at h
  rw [if_neg h2] at h ⊢
  by_cases h3 : l.length - (takeV l).2.1 < (takeV l).1
  · rw [if_pos h3] at h; simp at h
  rw [if_neg h3]
  have := takeV_ok (l := l) (by simpa using h1)
  simp only [cutL, List.length_drop, List.length_take]
  omega
end Go.Proofs.YtkejdbidomlonaaGreatDoor

namespace Go.Proofs.YtkejdbidomlonaaGreatDoor

theorem takeGo_put : ∀ (d i acc n : Nat) (rest : List UInt8), d + i = 9 → n < 2 ^ (64 - 7 * i) → ¬ (n = 0 ∧ 0 < i) → takeGo i acc (putV n ++ rest) = (acc + n * 2 ^ (7 * i), i + (putV n).length, 0)
  | d, i, acc, n, rest, hd, hn, hz => by
    by_cases h : n < 128
    · have hc : (UInt8.ofNat n).toNat = n := by simp; omega
      rw [putV_small h]
      simp only [List.cons_append, List.nil_append, List.length_singleton]
      rw [takeGo, hc, if_neg, if_pos h, if_neg hz, Nat.mod_eq_of_lt h]
      rintro ⟨rfl, h1⟩
      simp at hn
      omega
    · have hr := putV_room (n := n) (k := i) (by omega) hn (by omega)
      have hc : (UInt8.ofNat (n % 128 + 128)).toNat = n % 128 + 128 := by simp; omega
      rw [putV_big h]
      simp only [List.cons_append, List.length_cons]
      match d, hd with
      | 0, hd => omega
      | d + 1, hd =>
        rw [takeGo, hc, if_neg (by omega), if_neg (by omega), takeGo_put d (i + 1) _ (n / 128) rest (by omega) hr.2 (by omega)]
        have e1 : (n % 128 + 128) % 128 = n % 128 := by omega
        have e2 : 2 ^ (7 * (i + 1)) = 128 * 2 ^ (7 * i) := by rw [Nat.mul_add, Nat.mul_one, Nat.pow_add, Nat.mul_comm]
        rw [e1, e2]
        have e3 : n * 2 ^ (7 * i) = n % 128 * 2 ^ (7 * i) + n / 128 * (128 * 2 ^ (7 * i)) := by
          rw [← Nat.mul_assoc, ← Nat.add_mul]; congr 1; omega
        rw [e3]
        refine Prod.ext ?_ (Prod.ext ?_ rfl)
        · simp only; omega
        · simp only; omega
theorem takeV_put {n : Nat} (h : n < 2 ^ 64) (rest : List UInt8) : takeV (putV n ++ rest) = (n, (putV n).length, 0) := by
  unfold takeV
  rw [takeGo_put 9 0 0 n rest rfl (by simpa using h) (by omega)]
  simp
theorem takeText_put {t : List UInt8} (h : t.length ≤ 65536) (rest : List UInt8) : takeText (putText t ++ rest) = (t, (putText t).length, 0) := by
  have e : putText t = putV t.length ++ t := by unfold putText; rw [if_neg (by omega)]
  have h1 : takeV (putText t ++ rest) = (t.length, (putV t.length).length, 0) := by
    rw [e, List.append_assoc, takeV_put (by omega)]
  unfold takeText
  rw [h1]
  simp only
  rw [if_neg (by simp), if_neg (by omega), if_neg (by rw [e]; simp)]
  refine Prod.ext ?_ (Prod.ext ?_ rfl)
  · simp only [cutL]
    rw [e, List.append_assoc, List.take_append, List.take_of_length_le (by omega), List.drop_append, List.drop_eq_nil_of_le (by omega)]
    simp
  · simp only [e, List.length_append]
end Go.Proofs.YtkejdbidomlonaaGreatDoor

namespace Go.Proofs.YtkejdbidomlonaaGreatDoor

/-- What was taken stands in the bytes as it is written. -/
theorem takeGo_canon : ∀ (l : List UInt8) (i acc : Nat), i ≤ 9 → (takeGo i acc l).2.2 = 0 → ∃ n k : Nat, (takeGo i acc l).1 = acc + n * 2 ^ (7 * i) ∧ (takeGo i acc l).2.1 = i + k ∧ l.take k = putV n ∧ k ≤ l.length ∧ ¬ (n = 0 ∧ 0 < i)
  | [], i, acc, _, h => by simp [takeGo] at h
  | c :: cs, i, acc, h9, h => by
    unfold takeGo at h ⊢
    have hc := c.toNat_lt
    by_cases h1 : i = 9 ∧ 1 < c.toNat
    · rw [if_pos h1] at h; simp at h
    rw [if_neg h1] at h ⊢
    by_cases h2 : c.toNat < 128
    · rw [if_pos h2] at h ⊢
      by_cases h3 : c.toNat = 0 ∧ 0 < i
      · rw [if_pos h3] at h; simp at h
      · rw [if_neg h3]
        refine ⟨c.toNat, 1, ?_, rfl, ?_, by simp, h3⟩
        · simp only; rw [Nat.mod_eq_of_lt h2]
        · rw [putV_small h2]; simp
    · rw [if_neg h2] at h ⊢
      have hi : i < 9 := by
        rcases Nat.lt_or_ge i 9 with hi | hi
        · exact hi
        · exact absurd ⟨by omega, by omega⟩ h1
      obtain ⟨n, k, q1, q2, q3, q4, q5⟩ := takeGo_canon cs (i + 1) _ (by omega) h
      have hn0 : n ≠ 0 := fun e => q5 ⟨e, by omega⟩
      refine ⟨c.toNat % 128 + 128 * n, k + 1, ?_, ?_, ?_, by simp; omega, by omega⟩
      · rw [q1, Nat.add_mul, show 7 * (i + 1) = 7 * i + 7 by omega, Nat.pow_add, Nat.add_assoc]
        congr 1
        rw [show 128 * n * 2 ^ (7 * i) = n * (2 ^ (7 * i) * 2 ^ 7) by rw [show (2 : Nat) ^ 7 = 128 by rfl, Nat.mul_comm 128 n, Nat.mul_assoc, Nat.mul_comm 128]]
      · rw [q2]; omega
      · rw [List.take_succ_cons, q3, putV_big (n := c.toNat % 128 + 128 * n) (by omega)]
        congr 1
        · apply UInt8.toNat_inj.1
          rw [UInt8.toNat_ofNat']
          omega
        · congr 1; omega
theorem takeV_canon {l : List UInt8} (h : (takeV l).2.2 = 0) : l = putV (takeV l).1 ++ l.drop (takeV l).2.1 := by
  obtain ⟨n, k, q1, q2, q3, q4, _⟩ := takeGo_canon l 0 0 (by omega) h
  have e1 : (takeV l).1 = n := by show (takeGo 0 0 l).1 = n; rw [q1]; simp
  have e2 : (takeV l).2.1 = k := by show (takeGo 0 0 l).2.1 = k; rw [q2]; omega
  rw [e1, e2, ← q3, List.take_append_drop]
theorem takeText_canon {l : List UInt8} (h : (takeText l).2.2 = 0) : l = putText (takeText l).1 ++ l.drop (takeText l).2.1 ∧ (takeText l).1.length ≤ 65536 := by
  unfold takeText at h ⊢
  by_cases h1 : (takeV l).2.2 ≠ 0
  · rw [if_pos h1] at h; exact absurd h h1
  rw [if_neg h1] at h ⊢
  by_cases h2 : 65536 < (takeV l).1
  · rw [if_pos h2] at h; simp at h
  rw [if_neg h2] at h ⊢
  by_cases h3 : l.length - (takeV l).2.1 < (takeV l).1
  · rw [if_pos h3] at h; simp at h
  rw [if_neg h3]
  have hc := takeV_canon (l := l) (by simpa using h1)
  have hk := (takeV_ok (l := l) (by simpa using h1)).1
  simp only
  generalize (takeV l).1 = n at *
  generalize (takeV l).2.1 = k at *
  have hcl : (cutL l k (k + n)).length = n := by simp only [cutL, List.length_drop, List.length_take]; omega
  refine ⟨?_, by omega⟩
  unfold putText
  rw [if_neg (by omega), hcl]
  have h4 : l.drop k = cutL l k (k + n) ++ l.drop (k + n) := by
    have h5 : (l.drop k).take n = cutL l k (k + n) := by simp only [cutL]; rw [List.drop_take]; congr 1; omega
    rw [← h5, show l.drop (k + n) = (l.drop k).drop n by rw [List.drop_drop], List.take_append_drop]
  rw [List.append_assoc, ← h4]
  exact hc

abbrev Prt := List UInt8 × Int
/-- A directory's entry: its name, its kind, whether it can be run, its key. -/
abbrev Ent := List UInt8 × Int × Bool × List UInt8
structure Nod where
  kind : Int
  data : List UInt8
  parts : List Prt
  ents : List Ent
def zNod : Nod := ⟨0, [], [], []⟩
def partOk (p : Prt) : Bool := p.1.length == 32 && (decide (1 ≤ p.2) && decide (p.2 ≤ 4096))
def wholeP (l : List Prt) : Int := (l.map (·.2)).sum
def entOk (e : Ent) : Bool := (e.2.1 == 2 || e.2.1 == 3 && !e.2.2.1) && (e.2.2.2.length == 32 && nameB e.1)
def risesE (l : List Ent) : Prop := (l.map (·.1)).Pairwise (· < ·)
structure FitFile (l : List Prt) : Prop where
  len : l.length ≤ 1024
  ok : ∀ p ∈ l, partOk p = true
  whole : wholeP l ≤ 32768
structure FitDir (l : List Ent) : Prop where
  len : l.length ≤ 60
  ok : ∀ e ∈ l, entOk e = true
  rises : risesE l
def FitN (n : Nod) : Prop :=
  (n.kind = 1 ∧ n.data ≠ [] ∧ n.data.length ≤ 4096 ∧ n.parts = [] ∧ n.ents = []) ∨ (n.kind = 2 ∧ n.data = [] ∧ n.ents = [] ∧ FitFile n.parts) ∨ (n.kind = 3 ∧ n.data = [] ∧ n.parts = [] ∧ FitDir n.ents)
noncomputable def fitN (n : Nod) : Bool := @decide (FitN n) (Classical.propDecidable _)
theorem fitN_iff {n : Nod} : fitN n = true ↔ FitN n := by unfold fitN; exact @decide_eq_true_iff _ (Classical.propDecidable _)
theorem fitN_no {n : Nod} (h : ¬ FitN n) : fitN n = false := by
  cases e : fitN n with
  | false => rfl
  | true => exact absurd (fitN_iff.1 e) h
def partW (p : Prt) : List UInt8 := p.1 ++ putV p.2.toNat
def kindW (e : Ent) : UInt8 := UInt8.ofNat (e.2.1.toNat + if e.2.2.1 = true then 4 else 0)
def entW (e : Ent) : List UInt8 := putText e.1 ++ [kindW e] ++ e.2.2.2
def bodyN (n : Nod) : List UInt8 := if n.kind = 1 then n.data else if n.kind = 2 then putV n.parts.length ++ n.parts.flatMap partW else putV n.ents.length ++ n.ents.flatMap entW
noncomputable def writeN (n : Nod) : List UInt8 := if fitN n = true then UInt8.ofNat n.kind.toNat :: bodyN n else []

/-! What bytes begin with, and the rest. -/
def cutR (n : Nat) (s : List UInt8) : Option (List UInt8 × List UInt8) := if s.length < n then none else some (s.take n, s.drop n)
def numR (most : Nat) (s : List UInt8) : Option (Nat × List UInt8) := if (takeV s).2.2 ≠ 0 ∨ most < (takeV s).1 then none else some ((takeV s).1, s.drop (takeV s).2.1)
def textR (s : List UInt8) : Option (List UInt8 × List UInt8) := if (takeText s).2.2 ≠ 0 then none else some ((takeText s).1, s.drop (takeText s).2.1)
def kindB (c : UInt8) : Nat := c.toNat - 4 * (c.toNat / 4 % 2)
def execB (c : UInt8) : Bool := c.toNat / 4 % 2 == 1
def partR (s : List UInt8) : Option (Prt × List UInt8) :=
  match cutR 32 s with
  | none => none
  | some (k, s1) => match numR 4096 s1 with
    | none => none
    | some (n, s2) => some ((k, (n : Int)), s2)
def entR (s : List UInt8) : Option (Ent × List UInt8) :=
  match textR s with
  | none => none
  | some (t, s1) => match s1 with
    | [] => none
    | c :: s2 => match cutR 32 s2 with
      | none => none
      | some (k, s3) => some ((t, (kindB c : Int), execB c, k), s3)
def manyR {α : Type} (r : List UInt8 → Option (α × List UInt8)) : Nat → List UInt8 → Option (List α × List UInt8)
  | 0, s => some ([], s)
  | n + 1, s => match r s with
    | none => none
    | some (x, s1) => match manyR r n s1 with
      | none => none
      | some (l, s2) => some (x :: l, s2)
def listR {α : Type} (r : List UInt8 → Option (α × List UInt8)) (s : List UInt8) : Option (List α × List UInt8) :=
  match numR 1024 s with
  | none => none
  | some (n, s1) => manyR r n s1
def parseN : List UInt8 → Option (Nod × List UInt8)
  | [] => none
  | c :: s => if c.toNat = 1 then some (⟨1, s, [], []⟩, []) else if c.toNat = 2 then (match listR partR s with | none => none | some (l, r) => some (⟨2, [], l, []⟩, r))
    else if c.toNat = 3 then (match listR entR s with | none => none | some (l, r) => some (⟨3, [], [], l⟩, r)) else none
noncomputable def readN (s : List UInt8) : Nod × Int :=
  match parseN s with
  | none => (zNod, 2)
  | some (n, r) => if r = [] ∧ fitN n = true then (n, 0) else (zNod, 2)

theorem parseN_cons (c : UInt8) (s : List UInt8) : parseN (c :: s) = if c.toNat = 1 then some (⟨1, s, [], []⟩, []) else if c.toNat = 2 then (match listR partR s with | none => none | some (l, r) => some (⟨2, [], l, []⟩, r))
    else if c.toNat = 3 then (match listR entR s with | none => none | some (l, r) => some (⟨3, [], [], l⟩, r)) else none := rfl
theorem cutR_some {n : Nat} {s a r : List UInt8} (h : cutR n s = some (a, r)) : s = a ++ r ∧ a.length = n := by
  unfold cutR at h
  split at h
  · cases h
  · cases h
    exact ⟨(List.take_append_drop _ _).symm, by rw [List.length_take]; omega⟩
theorem numR_some {m n : Nat} {s r : List UInt8} (h : numR m s = some (n, r)) : s = putV n ++ r ∧ n ≤ m := by
  unfold numR at h
  split at h
  · cases h
  · rename_i hn
    cases h
    exact ⟨takeV_canon (by apply Classical.byContradiction; intro e; exact hn (.inl e)), by omega⟩
theorem textR_some {s t r : List UInt8} (h : textR s = some (t, r)) : s = putText t ++ r := by
  unfold textR at h
  split at h
  · cases h
  · rename_i hn
    cases h
    exact (takeText_canon (by apply Classical.byContradiction; intro e; exact hn e)).1
theorem partR_some {s r : List UInt8} {p : Prt} (h : partR s = some (p, r)) : s = partW p ++ r := by
  unfold partR at h
  cases h1 : cutR 32 s with
  | none => rw [h1] at h; cases h
  | some q =>
    obtain ⟨k, s1⟩ := q
    rw [h1] at h
    simp only at h
    cases h2 : numR 4096 s1 with
    | none => rw [h2] at h; cases h
    | some q =>
      obtain ⟨n, s2⟩ := q
      rw [h2] at h
      simp only [Option.some.injEq, Prod.mk.injEq] at h
      obtain ⟨rfl, rfl⟩ := h
      rw [(cutR_some h1).1, (numR_some h2).1]
      simp [partW]
theorem kind_back {c : UInt8} (_h : kindB c = 2 ∨ kindB c = 3) : UInt8.ofNat (kindB c + if execB c = true then 4 else 0) = c := by
  apply UInt8.toNat_inj.1
  rw [UInt8.toNat_ofNat']
  unfold kindB execB at *
  have := c.toNat_lt
  by_cases e : c.toNat / 4 % 2 = 1
  · rw [if_pos (by simpa using e)]; omega
  · rw [if_neg (by simpa using e)]; omega
theorem entR_some {s r : List UInt8} {e : Ent} (h : entR s = some (e, r)) (hk : entOk e = true) : s = entW e ++ r := by
  unfold entR at h
  cases h1 : textR s with
  | none => rw [h1] at h; cases h
  | some q =>
    obtain ⟨t, s1⟩ := q
    rw [h1] at h
    simp only at h
    cases s1 with
    | nil => cases h
    | cons c s2 =>
      simp only at h
      cases h2 : cutR 32 s2 with
      | none => rw [h2] at h; cases h
      | some q =>
        obtain ⟨k, s3⟩ := q
        rw [h2] at h
        simp only [Option.some.injEq, Prod.mk.injEq] at h
        obtain ⟨rfl, rfl⟩ := h
        have hkk : kindB c = 2 ∨ kindB c = 3 := by
          unfold entOk at hk
          simp only [Bool.and_eq_true, Bool.or_eq_true, beq_iff_eq] at hk
          rcases hk.1 with h | ⟨h, _⟩ <;> omega
        have hb := kind_back hkk
        rw [textR_some h1]
        unfold entW kindW
        simp only [Int.toNat_natCast]
        rw [hb, (cutR_some h2).1]
        simp
theorem manyR_some {α : Type} {rd : List UInt8 → Option (α × List UInt8)} {wr : α → List UInt8} {ok : α → Prop} (hr : ∀ s x r, rd s = some (x, r) → ok x → s = wr x ++ r) :
    ∀ (n : Nat) (s r : List UInt8) (l : List α), manyR rd n s = some (l, r) → (∀ x ∈ l, ok x) → s = l.flatMap wr ++ r ∧ l.length = n
  | 0, s, r, l, h, _ => by cases h; exact ⟨rfl, rfl⟩
  | n + 1, s, r, l, h, hok => by
    unfold manyR at h
    cases h1 : rd s with
    | none => rw [h1] at h; cases h
    | some q =>
      obtain ⟨x, s1⟩ := q
      rw [h1] at h
      simp only at h
      cases h2 : manyR rd n s1 with
      | none => rw [h2] at h; cases h
      | some q =>
        obtain ⟨l2, s2⟩ := q
        rw [h2] at h
        simp only [Option.some.injEq, Prod.mk.injEq] at h
        obtain ⟨rfl, rfl⟩ := h
        obtain ⟨e1, e2⟩ := manyR_some hr n s1 s2 l2 h2 (fun y hy => hok y (List.mem_cons_of_mem _ hy))
        refine ⟨?_, by simp [e2]⟩
        rw [hr _ _ _ h1 (hok x List.mem_cons_self), e1]
        simp
theorem listR_some {α : Type} {rd : List UInt8 → Option (α × List UInt8)} {wr : α → List UInt8} {ok : α → Prop} (hr : ∀ s x r, rd s = some (x, r) → ok x → s = wr x ++ r)
    {s r : List UInt8} {l : List α} (h : listR rd s = some (l, r)) (hok : ∀ x ∈ l, ok x) : s = putV l.length ++ l.flatMap wr ++ r := by
  unfold listR at h
  cases h1 : numR 1024 s with
  | none => rw [h1] at h; cases h
  | some q =>
    obtain ⟨n, s1⟩ := q
    rw [h1] at h
    obtain ⟨e1, e2⟩ := manyR_some hr n s1 r l h hok
    rw [(numR_some h1).1, e2, List.append_assoc, ← e1]
/-- What was read as a node that can be is what it is written as, and the rest. -/
theorem parseN_some {s r : List UInt8} {n : Nod} (h : parseN s = some (n, r)) (hf : FitN n) : s = writeN n ++ r := by
  unfold writeN
  rw [if_pos (fitN_iff.2 hf)]
  cases s with
  | nil => cases h
  | cons c s =>
    rw [parseN_cons] at h
    have hc : ∀ k : Nat, c.toNat = k → UInt8.ofNat k = c := fun k e => by rw [← e]; exact UInt8.ofNat_toNat
    split at h
    · rename_i h1
      cases h
      unfold bodyN
      rw [if_pos rfl]
      show c :: s = UInt8.ofNat 1 :: s ++ []
      rw [hc 1 h1, List.append_nil]
    · split at h
      · rename_i h1
        cases h2 : listR partR s with
        | none => rw [h2] at h; cases h
        | some q =>
          obtain ⟨l, r2⟩ := q
          rw [h2] at h
          cases h
          unfold bodyN
          simp only
          rw [if_neg (by decide), if_pos trivial]
          show c :: s = UInt8.ofNat 2 :: (putV l.length ++ l.flatMap partW) ++ r
          rw [hc 2 h1, listR_some (rd := partR) (wr := partW) (ok := fun _ => True) (fun s x r h _ => partR_some h) h2 (fun _ _ => trivial)]
          rfl
      · split at h
        · rename_i h1
          cases h2 : listR entR s with
          | none => rw [h2] at h; cases h
          | some q =>
            obtain ⟨l, r2⟩ := q
            rw [h2] at h
            cases h
            have hok : ∀ e ∈ l, entOk e = true := by
              rcases hf with ⟨h3, _⟩ | ⟨h3, _⟩ | ⟨_, _, _, h4⟩
              · cases h3
              · cases h3
              · exact h4.ok
            unfold bodyN
            simp only
            rw [if_neg (by decide), if_neg (by decide)]
            show c :: s = UInt8.ofNat 3 :: (putV l.length ++ l.flatMap entW) ++ r
            rw [hc 3 h1, listR_some (rd := entR) (wr := entW) (ok := fun e => entOk e = true) (fun s x r h hk => entR_some h hk) h2 hok]
            rfl
        · cases h
theorem readN_some {s r : List UInt8} {n : Nod} (h : parseN s = some (n, r)) (hf : FitN n) : (r = [] ↔ writeN n = s) := by
  have h1 := parseN_some h hf
  constructor
  · rintro rfl; rw [h1, List.append_nil]
  · intro e
    rw [e] at h1
    have := congrArg List.length h1
    rw [List.length_append] at this
    exact List.eq_nil_of_length_eq_zero (by omega)
end Go.Proofs.YtkejdbidomlonaaGreatDoor
