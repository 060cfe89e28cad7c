/- Sums of 32 bytes, in plain Lean. -/
import Derived.Test.YtaompdnnkfmjhaaGreatDoorJPlain
import Derived.Laws.BitsAllLaws
namespace Go.Proofs.YtaompdnnkfmjhaaGreatDoor
open Go.RowKit

/-- a word turned down. -/
def rotN (n x : Nat) : Nat := x / 2 ^ n + x % 2 ^ n * 2 ^ (32 - n)
theorem pow_split {n : Nat} (hn : n ≤ 32) : 2 ^ n * 2 ^ (32 - n) = 4294967296 := by rw [← Nat.pow_add, show n + (32 - n) = 32 by omega]
theorem rot_hi {n x : Nat} (hn : n ≤ 32) (h : x < 4294967296) : x / 2 ^ n < 2 ^ (32 - n) := Nat.div_lt_of_lt_mul (by rw [pow_split hn]; exact h)
theorem rotN_lt {n x : Nat} (hn : n ≤ 32) (h : x < 4294967296) : rotN n x < 4294967296 := by
  unfold rotN
  have h1 := rot_hi hn h
  have h2 : x % 2 ^ n < 2 ^ n := Nat.mod_lt _ (Nat.two_pow_pos n)
  have h3 : (x % 2 ^ n + 1) * 2 ^ (32 - n) ≤ 2 ^ n * 2 ^ (32 - n) := Nat.mul_le_mul_right _ h2
  rw [pow_split hn, Nat.add_mul, Nat.one_mul] at h3
  omega
theorem or_rot {n x : Nat} (hn : n ≤ 32) (h : x < 4294967296) : x / 2 ^ n ||| x * 2 ^ (32 - n) % 4294967296 = rotN n x := by
  have h2 : x * 2 ^ (32 - n) % 4294967296 = x % 2 ^ n * 2 ^ (32 - n) := by rw [← pow_split hn, Nat.mul_mod_mul_right]
  rw [h2, Nat.or_comm, ← Nat.shiftLeft_eq, ← Nat.shiftLeft_add_eq_or_of_lt (rot_hi hn h), Nat.shiftLeft_eq]
  unfold rotN
  omega
theorem cast_hi (x n : Nat) : (x : Int) / 2 ^ n = ((x / 2 ^ n : Nat) : Int) := by rw [Int.natCast_ediv, Int.natCast_pow]; rfl
theorem cast_lo (x n : Nat) : (x : Int) * 2 ^ n % 4294967296 = ((x * 2 ^ n % 4294967296 : Nat) : Int) := by rw [Int.natCast_emod, Int.natCast_mul, Int.natCast_pow]; rfl
theorem bits_rot {n x : Nat} (hn : n ≤ 32) (h : x < 4294967296) : bits BinOp.or IntKind.u32 ((x : Int) / 2 ^ n) ((x : Int) * 2 ^ (32 - n) % 4294967296) = ((rotN n x : Nat) : Int) := by
  rw [cast_hi, cast_lo, u32_or_nat _ _ (Nat.lt_of_le_of_lt (Nat.div_le_self _ _) h) (Nat.mod_lt _ (by decide)), or_rot hn h]
theorem bits_rot' {n x : Nat} (hn : n ≤ 32) (h : x < 4294967296) : bits BinOp.or IntKind.u32 ((x : Int) * 2 ^ (32 - n) % 4294967296) ((x : Int) / 2 ^ n) = ((rotN n x : Nat) : Int) := by
  rw [cast_hi, cast_lo, u32_or_nat _ _ (Nat.mod_lt _ (by decide)) (Nat.lt_of_le_of_lt (Nat.div_le_self _ _) h), Nat.or_comm, or_rot hn h]

theorem xor32 {a b : Nat} (h : a < 4294967296) (k : b < 4294967296) : a ^^^ b < 4294967296 := Nat.xor_lt_two_pow (n := 32) h k
theorem and32 {a b : Nat} (k : b < 4294967296) : a &&& b < 4294967296 := Nat.and_lt_two_pow (n := 32) a k
theorem or32 {a b : Nat} (h : a < 4294967296) (k : b < 4294967296) : a ||| b < 4294967296 := Nat.or_lt_two_pow (n := 32) h k

def chN (e f g : Nat) : Nat := (e &&& f) ^^^ ((4294967295 - e) &&& g)
def majN (a b c : Nat) : Nat := (a &&& b) ^^^ (a &&& c) ^^^ (b &&& c)
def bsA (a : Nat) : Nat := rotN 2 a ^^^ rotN 13 a ^^^ rotN 22 a
def bsE (e : Nat) : Nat := rotN 6 e ^^^ rotN 11 e ^^^ rotN 25 e
def ssA (x : Nat) : Nat := rotN 7 x ^^^ rotN 18 x ^^^ x / 8
def ssB (x : Nat) : Nat := rotN 17 x ^^^ rotN 19 x ^^^ x / 1024

theorem chN_lt {e f g : Nat} (hf : f < 4294967296) (hg : g < 4294967296) : chN e f g < 4294967296 := xor32 (and32 hf) (and32 hg)
theorem majN_lt {a b c : Nat} (hb : b < 4294967296) (hc : c < 4294967296) : majN a b c < 4294967296 := xor32 (xor32 (and32 hb) (and32 hc)) (and32 hc)
theorem bsA_lt {a : Nat} (h : a < 4294967296) : bsA a < 4294967296 := xor32 (xor32 (rotN_lt (by decide) h) (rotN_lt (by decide) h)) (rotN_lt (by decide) h)
theorem bsE_lt {a : Nat} (h : a < 4294967296) : bsE a < 4294967296 := xor32 (xor32 (rotN_lt (by decide) h) (rotN_lt (by decide) h)) (rotN_lt (by decide) h)
theorem ssA_lt {a : Nat} (h : a < 4294967296) : ssA a < 4294967296 := xor32 (xor32 (rotN_lt (by decide) h) (rotN_lt (by decide) h)) (by omega)
theorem ssB_lt {a : Nat} (h : a < 4294967296) : ssB a < 4294967296 := xor32 (xor32 (rotN_lt (by decide) h) (rotN_lt (by decide) h)) (by omega)

theorem not_bit {e : Nat} (h : e < 4294967296) (i : Nat) : (4294967295 - e).testBit i = (decide (i < 32) && !e.testBit i) := by
  have := Nat.testBit_two_pow_sub_succ (n := 32) h i
  rwa [show 2 ^ 32 - (e + 1) = 4294967295 - e by omega] at this
theorem ch_alt {e f g : Nat} (he : e < 4294967296) (hg : g < 4294967296) : g ^^^ (e &&& (f ^^^ g)) = chN e f g := by
  unfold chN
  apply Nat.eq_of_testBit_eq
  intro i
  simp only [Nat.testBit_xor, Nat.testBit_and, not_bit he]
  by_cases hi : i < 32
  · cases e.testBit i <;> cases f.testBit i <;> cases g.testBit i <;> simp [hi]
  · have : g.testBit i = false := Nat.testBit_lt_two_pow (Nat.lt_of_lt_of_le hg (show 2 ^ 32 ≤ 2 ^ i from Nat.pow_le_pow_right (by decide) (by omega)))
    rw [this]
    cases e.testBit i <;> cases f.testBit i <;> simp [hi]
theorem maj_alt (a b c : Nat) : (a &&& b) ||| (c &&& (a ||| b)) = majN a b c := by
  unfold majN
  apply Nat.eq_of_testBit_eq
  intro i
  simp only [Nat.testBit_xor, Nat.testBit_and, Nat.testBit_or]
  cases a.testBit i <;> cases b.testBit i <;> cases c.testBit i <;> rfl

/-- eight words. -/
structure H8 where
  a : Nat
  b : Nat
  c : Nat
  d : Nat
  e : Nat
  f : Nat
  g : Nat
  h : Nat
structure H8.ok (v : H8) : Prop where
  a : v.a < 4294967296
  b : v.b < 4294967296
  c : v.c < 4294967296
  d : v.d < 4294967296
  e : v.e < 4294967296
  f : v.f < 4294967296
  g : v.g < 4294967296
  h : v.h < 4294967296

def kSha : List Nat := [1116352408, 1899447441, 3049323471, 3921009573, 961987163, 1508970993, 2453635748, 2870763221, 3624381080, 310598401, 607225278, 1426881987, 1925078388, 2162078206, 2614888103, 3248222580, 3835390401, 4022224774, 264347078, 604807628, 770255983, 1249150122, 1555081692, 1996064986, 2554220882, 2821834349, 2952996808, 3210313671, 3336571891, 3584528711, 113926993, 338241895, 666307205, 773529912, 1294757372, 1396182291, 1695183700, 1986661051, 2177026350, 2456956037, 2730485921, 2820302411, 3259730800, 3345764771, 3516065817, 3600352804, 4094571909, 275423344, 430227734, 506948616, 659060556, 883997877, 958139571, 1322822218, 1537002063, 1747873779, 1955562222, 2024104815, 2227730452, 2361852424, 2428436474, 2756734187, 3204031479, 3329325298]
def h0Sha : H8 := ⟨1779033703, 3144134277, 1013904242, 2773480762, 1359893119, 2600822924, 528734635, 1541459225⟩
theorem h0_ok : h0Sha.ok := ⟨by decide, by decide, by decide, by decide, by decide, by decide, by decide, by decide⟩

def tSha (v : H8) (k w : Nat) : Nat := (v.h + bsE v.e + chN v.e v.f v.g + k + w) % 4294967296
def stepH (v : H8) (k w : Nat) : H8 := ⟨(tSha v k w + bsA v.a + majN v.a v.b v.c) % 4294967296, v.a, v.b, v.c, (v.d + tSha v k w) % 4294967296, v.e, v.f, v.g⟩
theorem stepH_ok {v : H8} (h : v.ok) (k w : Nat) : (stepH v k w).ok := ⟨Nat.mod_lt _ (by decide), h.a, h.b, h.c, Nat.mod_lt _ (by decide), h.e, h.f, h.g⟩
def runH (v : H8) (ws : List Nat) : Nat → H8
  | 0 => v
  | n + 1 => stepH (runH v ws n) (kSha.getD n 0) (ws.getD n 0)
theorem runH_ok {v : H8} (h : v.ok) (ws : List Nat) : ∀ n, (runH v ws n).ok
  | 0 => h
  | n + 1 => stepH_ok (runH_ok h ws n) _ _
def addH (x y : H8) : H8 := ⟨(x.a + y.a) % 4294967296, (x.b + y.b) % 4294967296, (x.c + y.c) % 4294967296, (x.d + y.d) % 4294967296, (x.e + y.e) % 4294967296, (x.f + y.f) % 4294967296, (x.g + y.g) % 4294967296, (x.h + y.h) % 4294967296⟩
theorem addH_ok (x y : H8) : (addH x y).ok := ⟨Nat.mod_lt _ (by decide), Nat.mod_lt _ (by decide), Nat.mod_lt _ (by decide), Nat.mod_lt _ (by decide), Nat.mod_lt _ (by decide), Nat.mod_lt _ (by decide), Nat.mod_lt _ (by decide), Nat.mod_lt _ (by decide)⟩

/-- a block's words. -/
def wordB (b : List UInt8) (j : Nat) : Nat := (b.getD (4 * j) 0).toNat * 16777216 + (b.getD (4 * j + 1) 0).toNat * 65536 + (b.getD (4 * j + 2) 0).toNat * 256 + (b.getD (4 * j + 3) 0).toNat
theorem wordB_lt (b : List UInt8) (j : Nat) : wordB b j < 4294967296 := by
  unfold wordB
  have h1 := UInt8.toNat_lt (b.getD (4 * j) 0)
  have h2 := UInt8.toNat_lt (b.getD (4 * j + 1) 0)
  have h3 := UInt8.toNat_lt (b.getD (4 * j + 2) 0)
  have h4 := UInt8.toNat_lt (b.getD (4 * j + 3) 0)
  omega
def nextW (ws : List Nat) : Nat := (ws.getD (ws.length - 16) 0 + ssA (ws.getD (ws.length - 15) 0) + ws.getD (ws.length - 7) 0 + ssB (ws.getD (ws.length - 2) 0)) % 4294967296
def extW : Nat → List Nat → List Nat
  | 0, ws => ws
  | n + 1, ws => extW n (ws ++ [nextW ws])
theorem extW_len : ∀ n ws, (extW n ws).length = ws.length + n
  | 0, _ => rfl
  | n + 1, ws => by rw [extW, extW_len n]; simp; omega
def W32 (ws : List Nat) : Prop := ∀ x ∈ ws, x < 4294967296
theorem W32.snoc {ws : List Nat} (h : W32 ws) {x : Nat} (hx : x < 4294967296) : W32 (ws ++ [x]) := by
  intro y hy
  rcases List.mem_append.1 hy with hy | hy
  · exact h y hy
  · rw [List.mem_singleton.1 hy]; exact hx
theorem W32.at {ws : List Nat} (h : W32 ws) {i : Nat} (hi : i < ws.length) : ws[i] < 4294967296 := h _ (List.getElem_mem hi)
theorem nextW_lt (ws : List Nat) : nextW ws < 4294967296 := Nat.mod_lt _ (by decide)
theorem extW_32 : ∀ n ws, W32 ws → W32 (extW n ws)
  | 0, _, h => h
  | n + 1, _, h => extW_32 n _ (h.snoc (nextW_lt _))
def firstW (b : List UInt8) : List Nat := (List.range 16).map (wordB b)
theorem firstW_32 (b : List UInt8) : W32 (firstW b) := by
  intro x hx
  obtain ⟨j, -, rfl⟩ := List.mem_map.1 hx
  exact wordB_lt b j
def schedW (b : List UInt8) : List Nat := extW 48 (firstW b)
theorem schedW_len (b : List UInt8) : (schedW b).length = 64 := by
  unfold schedW firstW
  rw [extW_len]; simp
theorem schedW_32 (b : List UInt8) : W32 (schedW b) := extW_32 _ _ (firstW_32 b)
def blockH (h : H8) (b : List UInt8) : H8 := addH h (runH h (schedW b) 64)

/-- blocks of 64 bytes, one behind the other: n of them. -/
def blocksH (h : H8) (l : List UInt8) : Nat → H8
  | 0 => h
  | n + 1 => blockH (blocksH h l n) ((l.drop (64 * n)).take 64)
theorem blocksH_ok {h : H8} (hh : h.ok) (l : List UInt8) : ∀ n, (blocksH h l n).ok
  | 0 => hh
  | _ + 1 => addH_ok _ _
theorem blocksH_more (h : H8) (l m : List UInt8) : ∀ n, 64 * n ≤ l.length → blocksH h (l ++ m) n = blocksH h l n
  | 0, _ => rfl
  | n + 1, hn => by
    rw [blocksH, blocksH, blocksH_more h l m n (by omega), List.drop_append_of_le_length (by omega), List.take_append_of_le_length (by rw [List.length_drop]; omega)]
/-- the hash behind bytes, whole blocks alone. -/
def feedH (l : List UInt8) : H8 := blocksH h0Sha l (l.length / 64)
theorem feedH_ok (l : List UInt8) : (feedH l).ok := blocksH_ok h0_ok _ _
theorem feedH_snoc (l : List UInt8) (c : UInt8) : feedH (l ++ [c]) = if l.length % 64 = 63 then blockH (feedH l) (l.drop (64 * (l.length / 64)) ++ [c]) else feedH l := by
  unfold feedH
  rw [List.length_append, List.length_singleton]
  split
  · rename_i h
    rw [show (l.length + 1) / 64 = l.length / 64 + 1 by omega, blocksH, blocksH_more _ _ _ _ (by omega), List.drop_append_of_le_length (by omega), List.take_of_length_le (by rw [List.length_append, List.length_drop, List.length_singleton]; omega)]
  · rename_i h
    rw [show (l.length + 1) / 64 = l.length / 64 by omega, blocksH_more _ _ _ _ (by omega)]

def wordBytes (x : Nat) : List UInt8 := [UInt8.ofNat (x / 16777216), UInt8.ofNat (x / 65536), UInt8.ofNat (x / 256), UInt8.ofNat x]
def H8.words (v : H8) : List Nat := [v.a, v.b, v.c, v.d, v.e, v.f, v.g, v.h]
def H8.bytes (v : H8) : List UInt8 := v.words.flatMap wordBytes
theorem H8.bytes_len (v : H8) : v.bytes.length = 32 := rfl
theorem H8.ok.words {v : H8} (h : v.ok) : W32 v.words := by
  intro x hx
  simp only [H8.words, List.mem_cons, List.not_mem_nil, or_false] at hx
  rcases hx with rfl | rfl | rfl | rfl | rfl | rfl | rfl | rfl
  · exact h.a
  · exact h.b
  · exact h.c
  · exact h.d
  · exact h.e
  · exact h.f
  · exact h.g
  · exact h.h

/-- how many zeros are put behind n bytes (n: with the byte 128), so that 56 of the last block are there. -/
def zerosN (n : Nat) : Nat := (56 + 64 - n % 64) % 64
theorem zerosN_zero {n : Nat} (h : n % 64 = 56) : zerosN n = 0 := by unfold zerosN; omega
theorem zerosN_succ {n : Nat} (h : ¬ n % 64 = 56) : zerosN n = zerosN (n + 1) + 1 := by unfold zerosN; omega
theorem zerosN_lt (n : Nat) : zerosN n < 64 := by unfold zerosN; omega
/-- a number's eight bytes. -/
def bytes8 (n : Nat) : List UInt8 := [UInt8.ofNat (n / 2 ^ 56), UInt8.ofNat (n / 2 ^ 48), UInt8.ofNat (n / 2 ^ 40), UInt8.ofNat (n / 2 ^ 32), UInt8.ofNat (n / 2 ^ 24), UInt8.ofNat (n / 2 ^ 16), UInt8.ofNat (n / 2 ^ 8), UInt8.ofNat n]
def padZ (l : List UInt8) : List UInt8 := l ++ [128] ++ List.replicate (zerosN (l.length + 1)) 0
def padS (l : List UInt8) : List UInt8 := padZ l ++ bytes8 (l.length * 8)
theorem padZ_len (l : List UInt8) : (padZ l).length % 64 = 56 := by
  unfold padZ zerosN
  simp only [List.length_append, List.length_singleton, List.length_replicate]
  omega
theorem padS_len (l : List UInt8) : (padS l).length = (padZ l).length + 8 := by unfold padS; rw [List.length_append]; rfl
theorem padZ_le (l : List UInt8) : (padZ l).length ≤ l.length + 64 := by
  unfold padZ
  have := zerosN_lt (l.length + 1)
  simp only [List.length_append, List.length_singleton, List.length_replicate]
  omega
/-- a text's sum. -/
def shaF (l : List UInt8) : List UInt8 := (feedH (padS l)).bytes
theorem shaF_len (l : List UInt8) : (shaF l).length = 32 := H8.bytes_len _

/-- a block's words of its first i bytes. -/
def begW (b : List UInt8) (i : Nat) : List Nat := (List.range 64).map (wordB (b.take i))
theorem begW_len (b : List UInt8) (i : Nat) : (begW b i).length = 64 := by simp [begW]
theorem begW_at (b : List UInt8) (i j : Nat) (h : j < (begW b i).length) : (begW b i)[j] = wordB (b.take i) j := by simp [begW]
theorem wordB_zero (j : Nat) : wordB [] j = 0 := by simp [wordB]
theorem begW_zero (b : List UInt8) : begW b 0 = List.replicate 64 0 := by
  unfold begW
  rw [List.take_zero]
  refine List.eq_replicate_iff.2 ⟨by simp, fun x hx => ?_⟩
  obtain ⟨j, -, rfl⟩ := List.mem_map.1 hx
  exact wordB_zero j
theorem begW_end {b : List UInt8} (h : b.length = 64) : begW b 64 = firstW b ++ List.replicate 48 0 := by
  unfold begW firstW
  rw [List.take_of_length_le (by omega), show 64 = 16 + 48 from rfl, List.range_add, List.map_append]
  congr 1
  refine List.eq_replicate_iff.2 ⟨by simp, fun x hx => ?_⟩
  rw [List.map_map] at hx
  obtain ⟨j, -, rfl⟩ := List.mem_map.1 hx
  show wordB b (16 + j) = 0
  unfold wordB
  have e : ∀ m, 64 ≤ m → b.getD m 0 = 0 := fun m hm => by rw [List.getD_eq_getElem?_getD, List.getElem?_eq_none (by omega)]; rfl
  rw [e _ (by omega), e _ (by omega), e _ (by omega), e _ (by omega)]
  rfl
theorem take_getD (b : List UInt8) (i m : Nat) : (b.take i).getD m 0 = if m < i then b.getD m 0 else 0 := by
  rw [List.getD_eq_getElem?_getD, List.getElem?_take]
  split
  · rw [List.getD_eq_getElem?_getD]
  · rfl
theorem getD_at {b : List UInt8} {i : Nat} (h : i < b.length) : b.getD i 0 = b[i] := by rw [List.getD_eq_getElem?_getD, List.getElem?_eq_getElem h]; rfl
theorem or_add {y s c : Nat} (hc : c < 256) : y * 2 ^ (s + 8) ||| c * 2 ^ s = y * 2 ^ (s + 8) + c * 2 ^ s := by
  have h : c * 2 ^ s < 2 ^ (s + 8) := by
    rw [Nat.pow_add, Nat.mul_comm (2 ^ s)]
    exact Nat.mul_lt_mul_of_pos_right hc (Nat.two_pow_pos s)
  rw [← Nat.shiftLeft_eq, Nat.shiftLeft_add_eq_or_of_lt h]
theorem wordB_other {b : List UInt8} {i j : Nat} (h : j ≠ i / 4) : wordB (b.take (i + 1)) j = wordB (b.take i) j := by
  have e : ∀ m, m ≠ i → (b.take (i + 1)).getD m 0 = (b.take i).getD m 0 := fun m hm => by
    rw [take_getD, take_getD]
    by_cases h1 : m < i
    · rw [if_pos h1, if_pos (by omega)]
    · rw [if_neg h1, if_neg (by omega)]
  unfold wordB
  rw [e _ (by omega), e _ (by omega), e _ (by omega), e _ (by omega)]
theorem wordB_same {b : List UInt8} {i : Nat} (h : i < b.length) : wordB (b.take i) (i / 4) ||| b[i].toNat * 2 ^ (24 - 8 * (i % 4)) = wordB (b.take (i + 1)) (i / 4) := by
  have e : ∀ n m, m < n → (b.take n).getD m 0 = b.getD m 0 := fun n m hm => by rw [take_getD, if_pos hm]
  have z : ∀ n m, ¬ m < n → (b.take n).getD m 0 = 0 := fun n m hm => by rw [take_getD, if_neg hm]
  have hc := UInt8.toNat_lt b[i]
  have hg := getD_at h
  obtain ⟨q, r, hq, hr⟩ : ∃ q r, i = 4 * q + r ∧ r < 4 := ⟨i / 4, i % 4, by omega, by omega⟩
  have hd : i / 4 = q := by omega
  have hm : i % 4 = r := by omega
  rw [hd, hm, ← hg]
  rw [← hg] at hc
  unfold wordB
  rcases (by omega : r = 0 ∨ r = 1 ∨ r = 2 ∨ r = 3) with h0 | h0 | h0 | h0
  · subst h0
    rw [z i _ (by omega), z i _ (by omega), z i _ (by omega), z i _ (by omega), e (i + 1) _ (by omega), z (i + 1) _ (by omega), z (i + 1) _ (by omega), z (i + 1) _ (by omega), show i = 4 * q by omega]
    simp
  · subst h0
    rw [e i _ (by omega), z i _ (by omega), z i _ (by omega), z i _ (by omega), e (i + 1) _ (by omega), e (i + 1) _ (by omega), z (i + 1) _ (by omega), z (i + 1) _ (by omega), show 4 * q + 1 = i by omega]
    have := or_add (y := (b.getD (4 * q) 0).toNat) (s := 16) hc
    simpa using this
  · subst h0
    rw [e i _ (by omega), e i _ (by omega), z i _ (by omega), z i _ (by omega), e (i + 1) _ (by omega), e (i + 1) _ (by omega), e (i + 1) _ (by omega), z (i + 1) _ (by omega), show 4 * q + 2 = i by omega]
    have := or_add (y := (b.getD (4 * q) 0).toNat * 256 + (b.getD (4 * q + 1) 0).toNat) (s := 8) hc
    rw [show ((b.getD (4 * q) 0).toNat * 256 + (b.getD (4 * q + 1) 0).toNat) * 2 ^ (8 + 8) = (b.getD (4 * q) 0).toNat * 16777216 + (b.getD (4 * q + 1) 0).toNat * 65536 by omega] at this
    simpa using this
  · subst h0
    rw [e i _ (by omega), e i _ (by omega), e i _ (by omega), z i _ (by omega), e (i + 1) _ (by omega), e (i + 1) _ (by omega), e (i + 1) _ (by omega), e (i + 1) _ (by omega), show 4 * q + 3 = i by omega]
    have := or_add (y := (b.getD (4 * q) 0).toNat * 65536 + (b.getD (4 * q + 1) 0).toNat * 256 + (b.getD (4 * q + 2) 0).toNat) (s := 0) hc
    rw [show ((b.getD (4 * q) 0).toNat * 65536 + (b.getD (4 * q + 1) 0).toNat * 256 + (b.getD (4 * q + 2) 0).toNat) * 2 ^ (0 + 8) = (b.getD (4 * q) 0).toNat * 16777216 + (b.getD (4 * q + 1) 0).toNat * 65536 + (b.getD (4 * q + 2) 0).toNat * 256 by omega] at this
    simpa using this
theorem begW_set {b : List UInt8} {i : Nat} (h : i < b.length) (_hl : b.length = 64) : (begW b i).set (i / 4) (wordB (b.take i) (i / 4) ||| b[i].toNat * 2 ^ (24 - 8 * (i % 4))) = begW b (i + 1) := by
  rw [wordB_same h]
  apply List.ext_getElem
  · rw [List.length_set, begW_len, begW_len]
  · intro j h1 h2
    rw [begW_at, List.getElem_set]
    split
    · rename_i e; rw [e]
    · rename_i e
      rw [begW_at, wordB_other (fun k => e k.symm)]
theorem getD_nat {ws : List Nat} {i : Nat} (h : i < ws.length) : ws.getD i 0 = ws[i] := by rw [List.getD_eq_getElem?_getD, List.getElem?_eq_getElem h]; rfl
theorem nextW_at {ws : List Nat} {m : Nat} (h : ws.length = m + 16) : nextW ws = (ws[m]'(by omega) + ssA (ws[m + 1]'(by omega)) + ws[m + 9]'(by omega) + ssB (ws[m + 14]'(by omega))) % 4294967296 := by
  unfold nextW
  rw [show ws.length - 16 = m by omega, show ws.length - 15 = m + 1 by omega, show ws.length - 7 = m + 9 by omega, show ws.length - 2 = m + 14 by omega, getD_nat (by omega), getD_nat (by omega), getD_nat (by omega), getD_nat (by omega)]
theorem extW_one {n : Nat} {ws : List Nat} (h : 0 < n) : extW n ws = extW (n - 1) (ws ++ [nextW ws]) := by
  obtain ⟨m, rfl⟩ : ∃ m, n = m + 1 := ⟨n - 1, by omega⟩
  rfl
theorem extW_zero {ws : List Nat} {n : Nat} (h : n = 0) : extW n ws = ws := by subst h; rfl
theorem div_cast (x k : Nat) : (x : Int) / (k : Int) = ((x / k : Nat) : Int) := by rw [Int.natCast_ediv]
theorem xor_nat32 {a b : Nat} (ha : a < 4294967296) (hb : b < 4294967296) : bits BinOp.xor IntKind.u32 (a : Int) (b : Int) = ((a ^^^ b : Nat) : Int) := u32_xor_nat a b ha hb
theorem ssA_val {x : Nat} (h : x < 4294967296) : bits BinOp.xor IntKind.u32 (bits BinOp.xor IntKind.u32 ((rotN 7 x : Nat) : Int) ((rotN 18 x : Nat) : Int)) ((x : Int) / 8) = ((ssA x : Nat) : Int) := by
  have h1 := rotN_lt (n := 7) (by decide) h
  have h2 := rotN_lt (n := 18) (by decide) h
  rw [xor_nat32 h1 h2, show (x : Int) / 8 = ((x / 8 : Nat) : Int) from div_cast x 8, xor_nat32 (xor32 h1 h2) (by omega)]
  rfl
theorem ssB_val {x : Nat} (h : x < 4294967296) : bits BinOp.xor IntKind.u32 (bits BinOp.xor IntKind.u32 ((rotN 17 x : Nat) : Int) ((rotN 19 x : Nat) : Int)) ((x : Int) / 1024) = ((ssB x : Nat) : Int) := by
  have h1 := rotN_lt (n := 17) (by decide) h
  have h2 := rotN_lt (n := 19) (by decide) h
  rw [xor_nat32 h1 h2, show (x : Int) / 1024 = ((x / 1024 : Nat) : Int) from div_cast x 1024, xor_nat32 (xor32 h1 h2) (by omega)]
  rfl
theorem bsA_val {x : Nat} (h : x < 4294967296) : bits BinOp.xor IntKind.u32 (bits BinOp.xor IntKind.u32 ((rotN 2 x : Nat) : Int) ((rotN 13 x : Nat) : Int)) ((rotN 22 x : Nat) : Int) = ((bsA x : Nat) : Int) := by
  have h1 := rotN_lt (n := 2) (by decide) h
  have h2 := rotN_lt (n := 13) (by decide) h
  have h3 := rotN_lt (n := 22) (by decide) h
  rw [xor_nat32 h1 h2, xor_nat32 (xor32 h1 h2) h3]
  rfl
theorem bsE_val {x : Nat} (h : x < 4294967296) : bits BinOp.xor IntKind.u32 (bits BinOp.xor IntKind.u32 ((rotN 6 x : Nat) : Int) ((rotN 11 x : Nat) : Int)) ((rotN 25 x : Nat) : Int) = ((bsE x : Nat) : Int) := by
  have h1 := rotN_lt (n := 6) (by decide) h
  have h2 := rotN_lt (n := 11) (by decide) h
  have h3 := rotN_lt (n := 25) (by decide) h
  rw [xor_nat32 h1 h2, xor_nat32 (xor32 h1 h2) h3]
  rfl
theorem chP_val {e f g : Nat} (he : e < 4294967296) (hf : f < 4294967296) (hg : g < 4294967296) : bits BinOp.xor IntKind.u32 (g : Int) (bits BinOp.and IntKind.u32 (e : Int) (bits BinOp.xor IntKind.u32 (f : Int) (g : Int))) = ((chN e f g : Nat) : Int) := by
  rw [xor_nat32 hf hg, u32_and_nat _ _ he (xor32 hf hg), xor_nat32 hg (and32 (xor32 hf hg)), ch_alt he hg]
theorem majP_val {a b c : Nat} (ha : a < 4294967296) (hb : b < 4294967296) (hc : c < 4294967296) : bits BinOp.or IntKind.u32 (bits BinOp.and IntKind.u32 (a : Int) (b : Int)) (bits BinOp.and IntKind.u32 (c : Int) (bits BinOp.or IntKind.u32 (a : Int) (b : Int))) = ((majN a b c : Nat) : Int) := by
  rw [u32_and_nat _ _ ha hb, u32_or_nat _ _ ha hb, u32_and_nat _ _ hc (or32 ha hb), u32_or_nat _ _ (and32 hb) (and32 (or32 ha hb)), maj_alt]
theorem stepH_a {a b c d e f g h k w : Nat} : ((((h : Int) + (bsE e : Nat) + (chN e f g : Nat) + k + w) % 4294967296 + (((bsA a : Nat) : Int) + (majN a b c : Nat)) % 4294967296) % 4294967296) = (((stepH ⟨a, b, c, d, e, f, g, h⟩ k w).a : Nat) : Int) := by
  simp only [stepH, tSha]
  omega
theorem stepH_e {a b c d e f g h k w : Nat} : (((d : Int) + ((h : Int) + (bsE e : Nat) + (chN e f g : Nat) + k + w) % 4294967296) % 4294967296) = (((stepH ⟨a, b, c, d, e, f, g, h⟩ k w).e : Nat) : Int) := by
  simp only [stepH, tSha]
  omega
theorem mix_set {α : Type} {A H : List α} {k : Nat} (hk : k < A.length) (hl : A.length = H.length) : (A.take k ++ H.drop k).set k A[k] = A.take (k + 1) ++ H.drop (k + 1) := by
  rw [List.set_append_right _ _ (by rw [List.length_take]; omega), List.length_take, Nat.min_eq_left (by omega), Nat.sub_self, List.drop_eq_getElem_cons (by omega), List.set_cons_zero, List.take_succ_eq_append_getElem hk, List.append_assoc]
  rfl
theorem mix_at {α : Type} {A H : List α} {k : Nat} (hk : k < H.length) (hl : A.length = H.length) : (A.take k ++ H.drop k)[k]? = some H[k] := by
  rw [List.getElem?_append_right (by rw [List.length_take]; omega), List.length_take, Nat.min_eq_left (by omega), Nat.sub_self, List.getElem?_drop, Nat.add_zero, List.getElem?_eq_getElem hk]
theorem addH_at (x y : H8) {k : Nat} (hk : k < 8) : (addH x y).words[k]'hk = (x.words[k]'hk + y.words[k]'hk) % 4294967296 := by
  match k, hk with
  | 0, _ => rfl
  | 1, _ => rfl
  | 2, _ => rfl
  | 3, _ => rfl
  | 4, _ => rfl
  | 5, _ => rfl
  | 6, _ => rfl
  | 7, _ => rfl
theorem ofNat_nat (n : Nat) : (UInt8.ofNat n).toNat = n % 256 := by rw [UInt8.toNat_ofNat']
theorem bytes8_at (n i : Nat) (h : i < (bytes8 n).length) : ((bytes8 n)[i]'h).toNat = n / 2 ^ (56 - 8 * i) % 256 := by
  have h8 : i < 8 := h
  match i, h8 with
  | 0, _ => exact ofNat_nat _
  | 1, _ => exact ofNat_nat _
  | 2, _ => exact ofNat_nat _
  | 3, _ => exact ofNat_nat _
  | 4, _ => exact ofNat_nat _
  | 5, _ => exact ofNat_nat _
  | 6, _ => exact ofNat_nat _
  | 7, _ => rw [show n / 2 ^ (56 - 8 * 7) = n by simp]; exact ofNat_nat _
theorem wordBytes_len (x : Nat) : (wordBytes x).length = 4 := rfl
theorem wordBytes_flat : ∀ l : List Nat, (l.flatMap wordBytes).length = 4 * l.length
  | [] => rfl
  | x :: l => by rw [List.flatMap_cons, List.length_append, wordBytes_flat l, wordBytes_len, List.length_cons]; omega
theorem flat_snoc {l : List Nat} {k : Nat} (h : k < l.length) : (l.take (k + 1)).flatMap wordBytes = (l.take k).flatMap wordBytes ++ wordBytes l[k] := by
  rw [List.take_succ_eq_append_getElem h, List.flatMap_append]; simp
theorem shl_cast {c s : Nat} (hc : c < 256) (hs : s ≤ 24) : (c : Int) % 4294967296 * 2 ^ s % 4294967296 = ((c * 2 ^ s : Nat) : Int) := by
  have h2 : c * 2 ^ s < 4294967296 := by
    have : 2 ^ s ≤ 2 ^ 24 := Nat.pow_le_pow_right (by decide) hs
    calc c * 2 ^ s ≤ 255 * 2 ^ 24 := Nat.mul_le_mul (by omega) this
      _ < 4294967296 := by decide
  rw [show (c : Int) % 4294967296 = (c : Int) by omega, cast_lo, Nat.mod_eq_of_lt h2]
theorem word_or {a b c d : Nat} (ha : a < 256) (hb : b < 256) (hc : c < 256) (hd : d < 256) :
    bits BinOp.or IntKind.u32 (bits BinOp.or IntKind.u32 (bits BinOp.or IntKind.u32 ((a * 16777216 : Nat) : Int) ((b * 65536 : Nat) : Int)) ((c * 256 : Nat) : Int)) (d : Int) = ((a * 16777216 + b * 65536 + c * 256 + d : Nat) : Int) := by
  have e1 : a * 16777216 ||| b * 65536 = a * 16777216 + b * 65536 := or_add (y := a) (s := 16) (c := b) hb
  have e2 : (a * 16777216 + b * 65536) ||| c * 256 = a * 16777216 + b * 65536 + c * 256 := by
    have := or_add (y := a * 256 + b) (s := 8) (c := c) hc
    rw [show (a * 256 + b) * 2 ^ (8 + 8) = a * 16777216 + b * 65536 by omega] at this
    simpa using this
  have e3 : (a * 16777216 + b * 65536 + c * 256) ||| d = a * 16777216 + b * 65536 + c * 256 + d := by
    have := or_add (y := a * 65536 + b * 256 + c) (s := 0) (c := d) hd
    rw [show (a * 65536 + b * 256 + c) * 2 ^ (0 + 8) = a * 16777216 + b * 65536 + c * 256 by omega] at this
    simpa using this
  rw [u32_or_nat _ _ (by omega) (by omega), e1, u32_or_nat _ _ (by omega) (by omega), e2, u32_or_nat _ _ (by omega) (by omega), e3]
theorem firstW_len (b : List UInt8) : (firstW b).length = 16 := by simp [firstW]
theorem firstW_at {b : List UInt8} {k : Nat} (h : k < (firstW b).length) : (firstW b)[k] = wordB b k := by simp [firstW]
theorem wordB_at {b : List UInt8} {k : Nat} (h : 4 * k + 3 < b.length) : wordB b k = (b[4 * k]'(by omega)).toNat * 16777216 + (b[4 * k + 1]'(by omega)).toNat * 65536 + (b[4 * k + 2]'(by omega)).toNat * 256 + (b[4 * k + 3]'h).toNat := by
  unfold wordB
  rw [getD_at (by omega), getD_at (by omega), getD_at (by omega), getD_at h]
theorem chR_val {e f g : Nat} (he : e < 4294967296) (hf : f < 4294967296) (hg : g < 4294967296) : bits BinOp.xor IntKind.u32 (bits BinOp.and IntKind.u32 (e : Int) (f : Int)) (bits BinOp.and IntKind.u32 (4294967295 - (e : Int)) (g : Int)) = ((chN e f g : Nat) : Int) := by
  rw [u32_and_nat _ _ he hf, show (4294967295 - (e : Int)) = ((4294967295 - e : Nat) : Int) by omega, u32_and_nat _ _ (by omega) hg, xor_nat32 (and32 hf) (and32 hg)]
  rfl
theorem majR_val {a b c : Nat} (ha : a < 4294967296) (hb : b < 4294967296) (hc : c < 4294967296) : bits BinOp.xor IntKind.u32 (bits BinOp.xor IntKind.u32 (bits BinOp.and IntKind.u32 (a : Int) (b : Int)) (bits BinOp.and IntKind.u32 (a : Int) (c : Int))) (bits BinOp.and IntKind.u32 (b : Int) (c : Int)) = ((majN a b c : Nat) : Int) := by
  rw [u32_and_nat _ _ ha hb, u32_and_nat _ _ ha hc, u32_and_nat _ _ hb hc, xor_nat32 (and32 hb) (and32 hc), xor_nat32 (xor32 (and32 hb) (and32 hc)) (and32 hc)]
  rfl
theorem padS_64 (l : List UInt8) : (padS l).length % 64 = 0 := by
  have h1 := padZ_len l
  have h2 := padS_len l
  omega
theorem blk_len {l : List UInt8} {k : Nat} (h : 64 * k < l.length) (h0 : l.length % 64 = 0) : ((l.drop (64 * k)).take 64).length = 64 := by
  rw [List.length_take, List.length_drop]; omega
theorem blk_at {l : List UInt8} {k j : Nat} (hj : j < 64) (h : 64 * k + j < l.length) : ((l.drop (64 * k)).take 64)[j]? = some l[64 * k + j] := by
  rw [List.getElem?_take, if_pos hj, List.getElem?_drop, List.getElem?_eq_getElem h]
theorem take_snoc' {l : List UInt8} {k : Nat} {c : UInt8} (h : l[k]? = some c) : l.take (k + 1) = l.take k ++ [c] := by
  obtain ⟨hk, he⟩ := List.getElem?_eq_some_iff.1 h
  rw [List.take_succ_eq_append_getElem hk, he]
end Go.Proofs.YtaompdnnkfmjhaaGreatDoor
