/- Numbers as bytes, in plain lists. Numbers and texts as bytes: there and back, in plain lists. -/
import Derived.Test.YtffdcnhpjgpcdaaGreatDoorBase
namespace Go.Proofs.YtffdcnhpjgpcdaaGreatDoor

/-- A number as bytes. -/
def putV (n : Nat) : List UInt8 := if n < 128 then [UInt8.ofNat n] else UInt8.ofNat (n % 128 + 128) :: putV (n / 128)
termination_by n
decreasing_by omega

/-- The number that bytes begin with, how many they are, what is wrong: from byte i on, acc so far. -/
def takeGo : Nat → Nat → List UInt8 → Nat × Nat × Int
  | _, _, [] => (0, 0, 1)
  | i, acc, c :: cs =>
    if i = 9 ∧ 1 < c.toNat then (0, 0, 4)
    else if c.toNat < 128 then (if c.toNat = 0 ∧ 0 < i then (0, 0, 2) else (acc + c.toNat % 128 * 2 ^ (7 * i), i + 1, 0))
    else takeGo (i + 1) (acc + c.toNat % 128 * 2 ^ (7 * i)) cs
def takeV (l : List UInt8) : Nat × Nat × Int := takeGo 0 0 l

def putText (l : List UInt8) : List UInt8 := if 65536 < l.length then [] else putV l.length ++ l
def takeText (l : List UInt8) : List UInt8 × Nat × Int :=
  if (takeV l).2.2 ≠ 0 then ([], 0, (takeV l).2.2)
  else if 65536 < (takeV l).1 then ([], 0, 4)
  else if l.length - (takeV l).2.1 < (takeV l).1 then ([], 0, 1)
  else (cutL l (takeV l).2.1 ((takeV l).2.1 + (takeV l).1), (takeV l).2.1 + (takeV l).1, 0)

theorem putV_small {n : Nat} (h : n < 128) : putV n = [UInt8.ofNat n] := by rw [putV, if_pos h]
theorem putV_big {n : Nat} (h : ¬ n < 128) : putV n = UInt8.ofNat (n % 128 + 128) :: putV (n / 128) := by rw [putV, if_neg h]

theorem takeGo_end {l : List UInt8} {i acc : Nat} (h : l.length ≤ i) : takeGo i acc (l.drop i) = (0, 0, 1) := by
  rw [List.drop_eq_nil_of_le h]; rfl
theorem takeGo_at {l : List UInt8} {i acc : Nat} (h : i < l.length) : takeGo i acc (l.drop i) =
    if i = 9 ∧ 1 < l[i].toNat then (0, 0, 4)
    else if l[i].toNat < 128 then (if l[i].toNat = 0 ∧ 0 < i then (0, 0, 2) else (acc + l[i].toNat % 128 * 2 ^ (7 * i), i + 1, 0))
    else takeGo (i + 1) (acc + l[i].toNat % 128 * 2 ^ (7 * i)) (l.drop (i + 1)) := by
  rw [List.drop_eq_getElem_cons h]; rfl

theorem acc_bound {i acc d : Nat} (h9 : i ≤ 9) (ha : acc < 2 ^ (7 * i)) (hd : d < 128) (h1 : i = 9 → d ≤ 1) : acc + d * 2 ^ (7 * i) < 2 ^ 64 ∧ d * 2 ^ (7 * i) < 2 ^ 64 ∧ (i < 9 → acc + d * 2 ^ (7 * i) < 2 ^ (7 * (i + 1))) := by
  have : i = 0 ∨ i = 1 ∨ i = 2 ∨ i = 3 ∨ i = 4 ∨ i = 5 ∨ i = 6 ∨ i = 7 ∨ i = 8 ∨ i = 9 := by omega
  rcases this with rfl | rfl | rfl | rfl | rfl | rfl | rfl | rfl | rfl | rfl <;> simp at ha ⊢ <;> (try have := h1 rfl) <;> omega

/-- What was taken lies in the bytes, and is a word. -/
theorem takeGo_ok : ∀ (l : List UInt8) (i acc : Nat), i ≤ 9 → acc < 2 ^ (7 * i) → (takeGo i acc l).2.2 = 0 → (takeGo i acc l).2.1 ≤ i + l.length ∧ i < (takeGo i acc l).2.1 ∧ (takeGo i acc l).1 < 2 ^ 64
  | [], i, acc, _, _, h => by simp [takeGo] at h
  | c :: cs, i, acc, h9, ha, h => by
    unfold takeGo at h ⊢
    by_cases h1 : i = 9 ∧ 1 < c.toNat
    · rw [if_pos h1] at h; simp at h
    rw [if_neg h1] at h ⊢
    have hb := acc_bound (d := c.toNat % 128) h9 ha (by omega) (by intro e; have : ¬ 1 < c.toNat := fun hh => h1 ⟨e, hh⟩; omega)
    by_cases h2 : c.toNat < 128
    · rw [if_pos h2] at h ⊢
      by_cases h3 : c.toNat = 0 ∧ 0 < i
      · rw [if_pos h3] at h; simp at h
      · rw [if_neg h3]
        exact ⟨by simp, by simp, hb.1⟩
    · rw [if_neg h2] at h ⊢
      have hi : i < 9 := by
        rcases Nat.lt_or_ge i 9 with hi | hi
        · exact hi
        · exfalso; exact h1 ⟨by omega, by omega⟩
      have := takeGo_ok cs (i + 1) _ (by omega) (hb.2.2 hi) h
      simp only [List.length_cons]
      exact ⟨by omega, by omega, this.2.2⟩
theorem takeV_ok {l : List UInt8} (h : (takeV l).2.2 = 0) : (takeV l).2.1 ≤ l.length ∧ 0 < (takeV l).2.1 ∧ (takeV l).1 < 2 ^ 64 := by
  have := takeGo_ok l 0 0 (by omega) (by simp) h
  rw [Nat.zero_add] at this
  exact this
theorem takeV_small {c : UInt8} {l : List UInt8} (h : c.toNat < 128) : takeV (c :: l) = (c.toNat, 1, 0) := by
  unfold takeV takeGo
  rw [if_neg (by omega), if_pos h, if_neg (by omega)]
  simp
  omega

theorem putV_step {n0 n : Nat} {out : List UInt8} (h : putV n0 = out ++ putV n) (hn : ¬ n < 128) : putV n0 = (out ++ [UInt8.ofNat (n % 128 + 128)]) ++ putV (n / 128) := by
  rw [h, putV_big hn, List.append_assoc]; rfl
theorem putV_last {n0 n : Nat} {out : List UInt8} (h : putV n0 = out ++ putV n) (hn : n < 128) : putV n0 = out ++ [UInt8.ofNat n] := by
  rw [h, putV_small hn]
theorem putV_room {n k : Nat} (hk : k ≤ 9) (hn : n < 2 ^ (64 - 7 * k)) (hb : 128 ≤ n) : k < 9 ∧ n / 128 < 2 ^ (64 - 7 * (k + 1)) := by
  have : k = 0 ∨ k = 1 ∨ k = 2 ∨ k = 3 ∨ k = 4 ∨ k = 5 ∨ k = 6 ∨ k = 7 ∨ k = 8 ∨ k = 9 := by omega
  rcases this with rfl | rfl | rfl | rfl | rfl | rfl | rfl | rfl | rfl | rfl <;> simp at hn ⊢ <;> omega
theorem putV_word {n k : Nat} (hk : k ≤ 9) (hn : n < 2 ^ (64 - 7 * k)) : n < 2 ^ 64 :=
  Nat.lt_of_lt_of_le hn (Nat.pow_le_pow_right (by omega) (by omega))

theorem putV_len' : ∀ (d k n : Nat), d + k = 9 → n < 2 ^ (64 - 7 * k) → (putV n).length + k ≤ 10
  | 0, k, n, hd, hn => by
    obtain rfl : k = 9 := by omega
    rw [putV_small (by simp at hn; omega)]
    simp
  | d + 1, k, n, hd, hn => by
    by_cases h : n < 128
    · rw [putV_small h]; simp; omega
    · obtain ⟨h1, h2⟩ := putV_room (by omega) hn (by omega)
      have := putV_len' d (k + 1) (n / 128) (by omega) h2
      rw [putV_big h]
      simp only [List.length_cons]
      omega
theorem putV_len {n : Nat} (h : n < 2 ^ 64) : (putV n).length ≤ 10 := putV_len' 9 0 n rfl (by simpa using h)

theorem takeText_ok {l : List UInt8} (h : (takeText l).2.2 = 0) : (takeText l).2.1 ≤ l.length ∧ (takeText l).1.length ≤ l.length := by
  unfold takeText at h ⊢
  by_cases h1 : (takeV l).2.2 ≠ 0
  · rw [if_pos h1] at h; exact absurd h h1
  rw [if_neg h1] at h ⊢
  by_cases h2 : 65536 < (takeV l).1
  · rw [if_pos h2] at h; simp at h
  rw [if_neg h2] at h ⊢
  by_cases h3 : l.length - (takeV l).2.1 < (takeV l).1
  · rw [if_pos h3] at h; simp at h
  rw [if_neg h3]
  have := takeV_ok (l := l) (by simpa using h1)
  simp only [cutL, List.length_drop, List.length_take]
  omega
end Go.Proofs.YtffdcnhpjgpcdaaGreatDoor

namespace Go.Proofs.YtffdcnhpjgpcdaaGreatDoor

theorem takeGo_put : ∀ (d i acc n : Nat) (rest : List UInt8), d + i = 9 → n < 2 ^ (64 - 7 * i) → ¬ (n = 0 ∧ 0 < i) → takeGo i acc (putV n ++ rest) = (acc + n * 2 ^ (7 * i), i + (putV n).length, 0)
  | d, i, acc, n, rest, hd, hn, hz => by
    by_cases h : n < 128
    · have hc : (UInt8.ofNat n).toNat = n := by simp; omega
      rw [putV_small h]
      simp only [List.cons_append, List.nil_append, List.length_singleton]
      rw [takeGo, hc, if_neg, if_pos h, if_neg hz, Nat.mod_eq_of_lt h]
      rintro ⟨rfl, h1⟩
      simp at hn
      omega
    · have hr := putV_room (n := n) (k := i) (by omega) hn (by omega)
      have hc : (UInt8.ofNat (n % 128 + 128)).toNat = n % 128 + 128 := by simp; omega
      rw [putV_big h]
      simp only [List.cons_append, List.length_cons]
      match d, hd with
      | 0, hd => omega
      | d + 1, hd =>
        rw [takeGo, hc, if_neg (by omega), if_neg (by omega), takeGo_put d (i + 1) _ (n / 128) rest (by omega) hr.2 (by omega)]
        have e1 : (n % 128 + 128) % 128 = n % 128 := by omega
        have e2 : 2 ^ (7 * (i + 1)) = 128 * 2 ^ (7 * i) := by rw [Nat.mul_add, Nat.mul_one, Nat.pow_add, Nat.mul_comm]
        rw [e1, e2]
        have e3 : n * 2 ^ (7 * i) = n % 128 * 2 ^ (7 * i) + n / 128 * (128 * 2 ^ (7 * i)) := by
          rw [← Nat.mul_assoc, ← Nat.add_mul]; congr 1; omega
        rw [e3]
        refine Prod.ext ?_ (Prod.ext ?_ rfl)
        · simp only; omega
        · simp only; omega
theorem takeV_put {n : Nat} (h : n < 2 ^ 64) (rest : List UInt8) : takeV (putV n ++ rest) = (n, (putV n).length, 0) := by
  unfold takeV
  rw [takeGo_put 9 0 0 n rest rfl (by simpa using h) (by omega)]
  simp
theorem takeText_put {t : List UInt8} (h : t.length ≤ 65536) (rest : List UInt8) : takeText (putText t ++ rest) = (t, (putText t).length, 0) := by
  have e : putText t = putV t.length ++ t := by unfold putText; rw [if_neg (by omega)]
  have h1 : takeV (putText t ++ rest) = (t.length, (putV t.length).length, 0) := by
    rw [e, List.append_assoc, takeV_put (by omega)]
  unfold takeText
  rw [h1]
  simp only
  rw [if_neg (by simp), if_neg (by omega), if_neg (by rw [e]; simp)]
  refine Prod.ext ?_ (Prod.ext ?_ rfl)
  · simp only [cutL]
    rw [e, List.append_assoc, List.take_append, List.take_of_length_le (by omega), List.drop_append, List.drop_eq_nil_of_le (by omega)]
    simp
  · simp only [e, List.length_append]
end Go.Proofs.YtffdcnhpjgpcdaaGreatDoor
