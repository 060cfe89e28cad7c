/- Numbers and texts as bytes: there and back, in plain lists. -/
import Derived.Test.YtnnjgokaabaaoaaDoorVarPlain
namespace Go.Proofs.YtnnjgokaabaaoaaDoor

theorem takeGo_put : ∀ (d i acc n : Nat) (rest : List UInt8), d + i = 9 → n < 2 ^ (64 - 7 * i) → ¬ (n = 0 ∧ 0 < i) → takeGo i acc (putV n ++ rest) = (acc + n * 2 ^ (7 * i), i + (putV n).length, 0)
  | d, i, acc, n, rest, hd, hn, hz => by
    by_cases h : n < 128
    · have hc : (UInt8.ofNat n).toNat = n := by simp; omega
      rw [putV_small h]
      simp only [List.cons_append, List.nil_append, List.length_singleton]
      rw [takeGo, hc, if_neg, if_pos h, if_neg hz, Nat.mod_eq_of_lt h]
      rintro ⟨rfl, h1⟩
      simp at hn
      omega
    · have hr := putV_room (n := n) (k := i) (by omega) hn (by omega)
      have hc : (UInt8.ofNat (n % 128 + 128)).toNat = n % 128 + 128 := by simp; omega
      rw [putV_big h]
      simp only [List.cons_append, List.length_cons]
      match d, hd with
      | 0, hd => omega
      | d + 1, hd =>
        rw [takeGo, hc, if_neg (by omega), if_neg (by omega), takeGo_put d (i + 1) _ (n / 128) rest (by omega) hr.2 (by omega)]
        have e1 : (n % 128 + 128) % 128 = n % 128 := by omega
        have e2 : 2 ^ (7 * (i + 1)) = 128 * 2 ^ (7 * i) := by rw [Nat.mul_add, Nat.mul_one, Nat.pow_add, Nat.mul_comm]
        rw [e1, e2]
        have e3 : n * 2 ^ (7 * i) = n % 128 * 2 ^ (7 * i) + n / 128 * (128 * 2 ^ (7 * i)) := by
          rw [← Nat.mul_assoc, ← Nat.add_mul]; congr 1; omega
        rw [e3]
        refine Prod.ext ?_ (Prod.ext ?_ rfl)
        · simp only; omega
        · simp only; omega
theorem takeV_put {n : Nat} (h : n < 2 ^ 64) (rest : List UInt8) : takeV (putV n ++ rest) = (n, (putV n).length, 0) := by
  unfold takeV
  rw [takeGo_put 9 0 0 n rest rfl (by simpa using h) (by omega)]
  simp
theorem takeText_put {t : List UInt8} (h : t.length ≤ 65536) (rest : List UInt8) : takeText (putText t ++ rest) = (t, (putText t).length, 0) := by
  have e : putText t = putV t.length ++ t := by unfold putText; rw [if_neg (by omega)]
  have h1 : takeV (putText t ++ rest) = (t.length, (putV t.length).length, 0) := by
    rw [e, List.append_assoc, takeV_put (by omega)]
  unfold takeText
  rw [h1]
  simp only
  rw [if_neg (by simp), if_neg (by omega), if_neg (by rw [e]; simp)]
  refine Prod.ext ?_ (Prod.ext ?_ rfl)
  · simp only [cutL]
    rw [e, List.append_assoc, List.take_append, List.take_of_length_le (by omega), List.drop_append, List.drop_eq_nil_of_le (by omega)]
    simp
  · simp only [e, List.length_append]
end Go.Proofs.YtnnjgokaabaaoaaDoor
