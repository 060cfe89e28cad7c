/- Numbers, texts and choices by a seed, in plain words. No program in sight. -/
import Derived.Test.YtdkmnolljllddaaDoorTreePlain2
import Derived.Laws.BitsAllLaws
namespace Go.Proofs.YtdkmnolljllddaaDoor

/-- A seed's next state. -/
def stepG (s : Int) : Int := IntKind.u64.wrap (IntKind.u64.wrap (s * 6364136223846793005) + 1442695040888963407)
def outG (s : Int) : Int := s / 8589934592
def iterG : Nat → Int → Int
  | 0, s => s
  | n + 1, s => iterG n (stepG s)
/-- The first n numbers of a seed. -/
def numsG : Nat → Int → List Int
  | 0, _ => []
  | n + 1, s => outG (stepG s) :: numsG n (stepG s)
theorem wrap_u64_range (x : Int) : 0 ≤ IntKind.u64.wrap x ∧ IntKind.u64.wrap x < 18446744073709551616 := by
  simp only [IntKind.wrap, IntKind.bits, IntKind.signed]; simp; omega
theorem stepG_range (s : Int) : 0 ≤ stepG s ∧ stepG s < 18446744073709551616 := wrap_u64_range _
theorem outG_range (s : Int) : 0 ≤ outG (stepG s) ∧ outG (stepG s) < 2147483648 := by
  have := stepG_range s
  unfold outG; omega
theorem iterG_last (n : Nat) (s : Int) : iterG (n + 1) s = stepG (iterG n s) := by
  induction n generalizing s with
  | zero => rfl
  | succ n ih => rw [iterG, ih]; rfl
theorem numsG_len (n : Nat) (s : Int) : (numsG n s).length = n := by
  induction n generalizing s with
  | zero => rfl
  | succ n ih => simp [numsG, ih]
theorem numsG_last (n : Nat) (s : Int) : numsG (n + 1) s = numsG n s ++ [outG (iterG (n + 1) s)] := by
  induction n generalizing s with
  | zero => rfl
  | succ n ih => rw [numsG, ih]; rfl
theorem numsG_take : ∀ (n m : Nat) (s : Int), n ≤ m → (numsG m s).take n = numsG n s
  | 0, _, _, _ => by simp [numsG]
  | n + 1, 0, _, h => by omega
  | n + 1, m + 1, s, h => by rw [numsG, List.take_succ_cons, numsG_take n m _ (by omega)]; rfl
theorem numsG_mem {n : Nat} {s x : Int} (h : x ∈ numsG n s) : 0 ≤ x ∧ x < 2147483648 := by
  induction n generalizing s with
  | zero => cases h
  | succ n ih =>
    rcases List.mem_cons.1 h with rfl | h
    · exact outG_range s
    · exact ih h
/-- A number's byte in a text, and in choices. -/
def charG (x : Int) : UInt8 := UInt8.ofNat (97 + x.toNat % 8)
def byteG (x : Int) : UInt8 := UInt8.ofNat (x.toNat % 256)
def countG (n most : Int) : Nat := (min n most).toNat
def textG (s n : Int) : List UInt8 := (numsG (countG n 32768) s).map charG
def choiceG (s n : Int) : List UInt8 := (numsG (countG n 4096) s).map byteG
/-- The k-th number of a seed; 0: there is none. -/
def numberG (s k : Int) : Int := if k < 1 ∨ 100000 < k then 0 else outG (iterG k.toNat s)
theorem charG_nat {x : Int} (h : 0 ≤ x) : ((charG x).toNat : Int) = 97 + x % 8 := by
  unfold charG
  rw [UInt8.toNat_ofNat']
  omega
theorem byteG_nat {x : Int} (h : 0 ≤ x) : ((byteG x).toNat : Int) = x % 256 := by
  unfold byteG
  rw [UInt8.toNat_ofNat']
  omega
theorem and7 {x : Int} (h : 0 ≤ x) (h2 : x < 2147483648) : bits .and .u64 x 7 = x % 8 := by
  rw [u64_and x 7 h (by omega) (by omega) (by omega)]
  have : x.toNat &&& 7 = x.toNat % 8 := Nat.and_two_pow_sub_one_eq_mod x.toNat 3
  rw [show (7 : Int).toNat = 7 from rfl, this]; omega
theorem and3 {x : Int} (h : 0 ≤ x) (h2 : x < 2147483648) : bits .and .u64 x 3 = x % 4 := by
  rw [u64_and x 3 h (by omega) (by omega) (by omega)]
  have : x.toNat &&& 3 = x.toNat % 4 := Nat.and_two_pow_sub_one_eq_mod x.toNat 2
  rw [show (3 : Int).toNat = 3 from rfl, this]; omega
end Go.Proofs.YtdkmnolljllddaaDoor
