/- Disks, in plain words: files, what may be lost of them, bytes laid on a text. No program in sight. Sets of keys: plain. The reference's Get and Fit of objects. Few objects, of few bytes, that are fit: plain. -/
import Derived.Test.YtocommjoncchpaaGreatDoorPathPlain
import Derived.Test.YtocommjoncchpaaGreatDoorJRowG
namespace Go.Proofs.YtocommjoncchpaaGreatDoor

/-- Bytes that may be lost: where they lie, and what they are. -/
abbrev Opn := Int × List UInt8
/-- A file: its name, what lasts, what may be lost. -/
abbrev LF := List UInt8 × List UInt8 × List Opn
/-- A disk: its files, whether its power is gone, how many acts are left. -/
abbrev LD := List LF × Bool × Int

def zerosL (n : Nat) : List UInt8 := List.replicate n 0
theorem zerosL_len (n : Nat) : (zerosL n).length = n := by simp [zerosL]
/-- Bytes laid on a text. -/
def layD (s : List UInt8) (k : Nat) (t : List UInt8) : List UInt8 := (s ++ zerosL (k - s.length)).take k ++ (t ++ s.drop (k + t.length))
def layO (s : List UInt8) (o : Opn) : List UInt8 := layD s o.1.toNat o.2
def seenL (s : List UInt8) (ops : List Opn) : List UInt8 := ops.foldl layO s

theorem layD_len (s : List UInt8) (k : Nat) (t : List UInt8) : (layD s k t).length = max s.length (k + t.length) := by
  simp [layD, zerosL]; omega
theorem layD_prog {s t : List UInt8} {k : Nat} (h : s.length < k + t.length) : (s ++ zerosL (k + t.length - s.length)).take k ++ (t ++ (s ++ zerosL (k + t.length - s.length)).drop (k + t.length)) = layD s k t := by
  unfold layD
  rw [List.drop_eq_nil_of_le (by simp [zerosL]; omega), List.drop_eq_nil_of_le (by omega)]
  congr 1
  rw [List.take_append, List.take_append]
  congr 1
  simp only [zerosL, List.take_replicate]
  congr 1; omega
theorem layD_in {s t : List UInt8} {k : Nat} (h : k ≤ s.length) : s.take k ++ (t ++ s.drop (k + t.length)) = layD s k t := by
  unfold layD
  rw [show k - s.length = 0 by omega]; simp [zerosL]
theorem layD_end {s t : List UInt8} {k : Nat} (h : s.length ≤ k + t.length) (h2 : k ≤ s.length) : s.take k ++ t = layD s k t := by
  rw [← layD_in h2, List.drop_eq_nil_of_le h, List.append_nil]
theorem layD_pad {s t : List UInt8} {k : Nat} (h : s.length < k) : (s ++ zerosL (k - s.length)).take k ++ t = layD s k t := by
  unfold layD
  rw [List.drop_eq_nil_of_le (by omega), List.append_nil]

def badO (o : Opn) : Bool := decide (o.1 < 0) || (decide (262144 < o.1) || (o.2.isEmpty || decide ((262144 : Int) - o.1 < o.2.length)))
def badF (f : LF) : Bool := !nameB f.1 || (decide (200 < f.2.2.length) || (decide (262144 < f.2.1.length) || f.2.2.any badO))
/-- Texts that go up. -/
def upN : List (List UInt8) → Bool
  | a :: b :: t => decide (a < b) && upN (b :: t)
  | _ => true
def headBad (n : Nat) (off : Bool) (fuse : Int) : Bool := decide (8 < n) || (decide (fuse < -1) || (decide (1048576 < fuse) || (off && fuse != -1)))
def fitD (d : LD) : Bool := !headBad d.1.length d.2.1 d.2.2 && (upN (d.1.map (·.1)) && !d.1.any badF)

theorem upN_append : ∀ (l : List (List UInt8)) (a b : List UInt8), upN (l ++ [a, b]) = (upN (l ++ [a]) && decide (a < b))
  | [], a, b => by simp [upN]
  | [c], a, b => by simp [upN]
  | c :: d :: t, a, b => by
    have := upN_append (d :: t) a b
    simp only [List.cons_append, upN] at this ⊢
    rw [this, Bool.and_assoc]
theorem upN_step {l : List (List UInt8)} {k : Nat} (h : k + 1 < l.length) : upN (l.take (k + 2)) = (upN (l.take (k + 1)) && decide (l[k] < l[k + 1])) := by
  rw [List.take_succ_eq_append_getElem h, List.take_succ_eq_append_getElem (show k < l.length by omega), List.append_assoc]
  exact upN_append _ _ _
theorem upN_take : ∀ (l : List (List UInt8)) (k : Nat), upN l = true → upN (l.take k) = true
  | [], k, _ => by simp [upN]
  | [a], 0, _ => rfl
  | [a], k + 1, _ => by simp [upN]
  | a :: b :: t, 0, _ => rfl
  | a :: b :: t, 1, _ => by simp [upN]
  | a :: b :: t, k + 2, h => by
    simp only [upN, Bool.and_eq_true] at h
    have := upN_take (b :: t) (k + 1) h.2
    simp only [List.take_succ_cons, upN, Bool.and_eq_true] at this ⊢
    exact ⟨h.1, this⟩
theorem upN_pairs : ∀ (l : List (List UInt8)), upN l = true → l.Pairwise (· < ·)
  | [], _ => List.Pairwise.nil
  | [a], _ => by simp
  | a :: b :: t, h => by
    simp only [upN, Bool.and_eq_true, decide_eq_true_eq] at h
    have ih := upN_pairs (b :: t) h.2
    refine List.Pairwise.cons ?_ ih
    intro c hc
    rcases List.mem_cons.1 hc with rfl | hc
    · exact h.1
    · exact List.lt_trans h.1 (List.rel_of_pairwise_cons ih hc)
theorem upN_of_pairs : ∀ (l : List (List UInt8)), l.Pairwise (· < ·) → upN l = true
  | [], _ => rfl
  | [a], _ => rfl
  | a :: b :: t, h => by
    simp only [upN, Bool.and_eq_true, decide_eq_true_eq]
    exact ⟨List.rel_of_pairwise_cons h (by simp), upN_of_pairs (b :: t) (List.Pairwise.of_cons h)⟩

section
variable {α : Type} (key : α → List UInt8)
/-- The row with f in the place of the one of its name. -/
def withK (l : List α) (f : α) : List α := l.filter (fun y => decide (key y < key f)) ++ f :: l.filter (fun y => decide (key f < key y))
def withoutK (l : List α) (n : List UInt8) : List α := l.filter (fun y => !(key y == n))
theorem withK_map {β : Type} {key' : β → List UInt8} {g : α → β} (hg : ∀ x, key x = key' (g x)) (l : List α) (f : α) : (withK key l f).map g = withK key' (l.map g) (g f) := by
  simp only [withK, List.map_append, List.map_cons, List.filter_map, Function.comp_def, hg]
theorem withoutK_map {β : Type} {key' : β → List UInt8} {g : α → β} (hg : ∀ x, key x = key' (g x)) (l : List α) (n : List UInt8) : (withoutK key l n).map g = withoutK key' (l.map g) n := by
  simp only [withoutK, List.filter_map, Function.comp_def, hg]
end

def findF (fs : List LF) (n : List UInt8) : Option LF := fs.find? (fun f => f.1 == n)
def withF (fs : List LF) (f : LF) : List LF := withK (·.1) fs f
def withoutF (fs : List LF) (n : List UInt8) : List LF := withoutK (·.1) fs n

def readD (d : LD) (n : List UInt8) : List UInt8 × Bool := match findF d.1 n with
  | some f => (seenL f.2.1 f.2.2, true)
  | none => ([], false)
/-- An act may go on, or the power is lost. -/
def powerD (d : LD) : LD × Int := if d.2.2 = 0 then ((d.1, true, -1), 13) else ((d.1, d.2.1, if 0 < d.2.2 then d.2.2 - 1 else d.2.2), 0)
/-- What an act comes to, if it is wrong, or else does something to the files. -/
def actD (d : LD) (wrong : Int) (fs : List LF) : LD × Int :=
  if d.2.1 = true then (d, 13) else if wrong ≠ 0 then (d, wrong) else if d.2.2 = 0 then ((d.1, true, -1), 13) else ((fs, d.2.1, if 0 < d.2.2 then d.2.2 - 1 else d.2.2), 0)
def fileOf (d : LD) (n : List UInt8) : LF := (findF d.1 n).getD (n, [], [])
def wrongW (d : LD) (n : List UInt8) (k : Int) (s : List UInt8) : Int :=
  if nameB n = false then 7 else if k < 0 ∨ 262144 < k ∨ 262144 - k < (s.length : Int) then 4
  else if ((findF d.1 n).isNone = true ∧ 8 ≤ d.1.length) ∨ (s ≠ [] ∧ 200 ≤ (fileOf d n).2.2.length) then 9 else 0
def putOps (f : LF) (k : Int) (s : List UInt8) : LF := if s = [] then f else (f.1, f.2.1, f.2.2 ++ [(k, s)])
def writeD (d : LD) (n : List UInt8) (k : Int) (s : List UInt8) : LD × Int := actD d (wrongW d n k s) (withF d.1 (putOps (fileOf d n) k s))
def wrongN (d : LD) (n : List UInt8) : Int := if (findF d.1 n).isNone = true then 5 else 0
def syncD (d : LD) (n : List UInt8) : LD × Int := actD d (wrongN d n) (withF d.1 (n, (readD d n).1, []))
def renameD (d : LD) (n m : List UInt8) : LD × Int := actD d (if nameB m = false then 7 else wrongN d n) (withF (withoutF d.1 n) (m, (fileOf d n).2))
def removeD (d : LD) (n : List UInt8) : LD × Int := actD d (wrongN d n) (withoutF d.1 n)

/-- What is seen behind a loss of power, of a file. -/
def layKeep (s : List UInt8) : List Opn → List Bool → List UInt8
  | [], _ => s
  | o :: os, ks => layKeep (if ks.headD false then layO s o else s) os ks.tail
def crashL : List LF → List Bool → List LF
  | [], _ => []
  | f :: fs, ks => (f.1, layKeep f.2.1 f.2.2 ks, []) :: crashL fs (ks.drop f.2.2.length)
def crashD (d : LD) (ks : List Bool) : LD := (crashL d.1 ks, false, -1)

theorem badO_iff (o : Opn) : badO o = false ↔ 0 ≤ o.1 ∧ o.1 ≤ 262144 ∧ o.2 ≠ [] ∧ (o.2.length : Int) ≤ 262144 - o.1 := by
  simp [badO]
theorem badF_iff (f : LF) : badF f = false ↔ nameB f.1 = true ∧ f.2.2.length ≤ 200 ∧ f.2.1.length ≤ 262144 ∧ ∀ o ∈ f.2.2, badO o = false := by
  simp [badF]
theorem seenL_step {s : List UInt8} {ops : List Opn} {k : Nat} (h : k < ops.length) : seenL s (ops.take (k + 1)) = layO (seenL s (ops.take k)) ops[k] := by
  unfold seenL; rw [List.take_succ_eq_append_getElem h, List.foldl_append]; rfl
theorem layO_len {s : List UInt8} {o : Opn} (hs : s.length ≤ 262144) (ho : badO o = false) : (layO s o).length ≤ 262144 := by
  obtain ⟨h1, h2, _, h3⟩ := (badO_iff o).1 ho
  unfold layO; rw [layD_len]; omega
theorem seenL_len : ∀ {ops : List Opn} {s : List UInt8}, s.length ≤ 262144 → (∀ o ∈ ops, badO o = false) → (seenL s ops).length ≤ 262144
  | [], s, hs, _ => hs
  | o :: ops, s, hs, h => seenL_len (ops := ops) (s := layO s o) (layO_len hs (h o (by simp))) (fun x hx => h x (by simp [hx]))
end Go.Proofs.YtocommjoncchpaaGreatDoor

namespace Go.Proofs.YtocommjoncchpaaGreatDoor
open Go.RowKit

/-- Keys that can be a set. -/
def fit5 (l : List (List UInt8)) : Bool := l.all (fun x => x.length == 32) && upN l
theorem str_cell {w : World} {b o : Nat} {xs : List (List UInt8)} (h : ∀ j x, xs[j]? = some x → w.cell? ⟨b, o + j, none⟩ = some (S x)) {j : Nat} (hj : j < xs.length) : w.cell? ⟨b, o + j, none⟩ = some (S xs[j]) := h j xs[j] (by simp [hj])

theorem fit5_bad {l : List (List UInt8)} {k : Nat} (h : k < l.length) (hb : l[k].length ≠ 32) : fit5 l = false := by
  unfold fit5
  rw [Bool.and_eq_false_iff]
  left
  rw [List.all_eq_false]
  exact ⟨l[k], by simp, by simpa using hb⟩
theorem fit5_down {l : List (List UInt8)} {j : Nat} (h : j + 1 < l.length) (hb : ¬ l[j] < l[j + 1]) : fit5 l = false := by
  unfold fit5
  rw [Bool.and_eq_false_iff]
  right
  cases hu : upN l with
  | false => rfl
  | true =>
    have h1 := upN_take l (j + 2) hu
    rw [upN_step h] at h1
    simp [hb] at h1
theorem fit5_one (l : List (List UInt8)) : upN (l.take 1) = true := by
  cases l with
  | nil => rfl
  | cons a t => simp [upN]
theorem fit5_all {l : List (List UInt8)} (h : ∀ x ∈ l, x.length = 32) (hu : upN l = true) : fit5 l = true := by
  unfold fit5
  rw [Bool.and_eq_true]
  exact ⟨List.all_eq_true.2 (fun x hx => by simpa using h x hx), hu⟩
theorem all32_step {l : List (List UInt8)} {k : Nat} (h : k < l.length) (ha : ∀ x ∈ l.take k, x.length = 32) (hb : l[k].length = 32) : ∀ x ∈ l.take (k + 1), x.length = 32 := by
  intro x hx
  rw [List.take_succ_eq_append_getElem h, List.mem_append] at hx
  rcases hx with hx | hx
  · exact ha x hx
  · simp only [List.mem_singleton] at hx; rw [hx]; exact hb
end Go.Proofs.YtocommjoncchpaaGreatDoor

namespace Go.Proofs.YtocommjoncchpaaGreatDoor
open Go.RowKit

/-- The first texts of a row of pairs. -/
def KeyRow (w : World) (v : Value) (xs : List (List UInt8)) : Prop :=
  ∃ a c, v = .slice a xs.length c ∧ xs.length ≤ c ∧ c ≤ maxLen ∧ (xs = [] ∨ ∃ b o, a = some ⟨b, o, none⟩ ∧ ∀ j (h : j < xs.length), w.cell? ⟨b, o + j * 2, none⟩ = some (S xs[j]))
theorem KeyRow.of {w : World} {v : Value} {l : List Snp} (h : SnpRow w v l) : KeyRow w v (namesR l) := by
  obtain ⟨a, c, hv, hc, hm, hx⟩ := h
  rw [← namesR_len l] at hv hc
  refine ⟨a, c, hv, hc, hm, ?_⟩
  rcases hx with hx | ⟨b, o, ha, hx⟩
  · exact .inl (by rw [hx]; rfl)
  · refine .inr ⟨b, o, ha, fun j hj => ?_⟩
    have hj2 : j < l.length := by rwa [namesR_len] at hj
    rw [(snp_cells hx hj2).1]
    simp [namesR]

set_option maxHeartbeats 1100000 in
set_option maxRecDepth 100000 in
theorem rget_walk (v : Value) (l : List Snp) (n : List UInt8) (w : World) (hr : SnpRow w v l) (hcnt : l.length ≤ 1100000) :
    Calls Tryz.prog 101 #[v, S n] w fun e w' => e = .returned (.tuple #[S (rootOf (findR l n)), .bool (findR l n).isSome]) ∧ Below w.heap.size w w' := by
  obtain ⟨a, c, rfl, hc, hm, hx⟩ := hr
  have HX := Lib.hid hx
  clear hx
  go_enter Tryz.func101, Tryz.ntmps101
  go_wp2
  go_loopw [6] (fun i wr => ∃ k : Nat, k ≤ l.length ∧ i = .int .i64 k ∧ findR (l.take k) n = none ∧ Below w.heap.size w wr) (fun i _ => l.length - (intOf i).toNat)
  case atStart => exact ⟨0, Nat.zero_le _, rfl, rfl, Below.refl _ _⟩
  case round =>
    obtain ⟨k, hk, rfl, ht, hB⟩ := hrel
    have HT := Lib.hid ht
    have HB := Lib.hid hB
    clear ht
    by_cases h1 : k < l.length
    · have hx := HX.out
      rcases hx with hx | ⟨b, o, rfl, hx⟩
      · exfalso; rw [hx] at h1; simp at h1
      obtain ⟨hx1, hx2⟩ := snp_cells hx h1
      have hc1 := cell_below hB hx1
      have hc2 := cell_below hB hx2
      have HE := Lib.hid (fun he : l[k].1 = n => findR_at h1 he HT.out)
      have HN := Lib.hid (fun he : l[k].1 ≠ n => findR_step h1 he HT.out)
      clear hx hx1 hx2 hB
      generalize l[k] = y at *
      obtain ⟨p, q⟩ := y
      have h1' : (k : Int) < (l.length : Int) := by omega
      by_cases hpn : p = n
      · subst hpn
        have HS := Lib.hid (HE.out rfl)
        have hpp : (p == p) = true := by simp
        go_wp2
        go_ret2
        exact ⟨by rw [HS.out]; rfl, HB.out⟩
      · have HS := Lib.hid (HN.out hpn)
        have hpp : (p == n) = false := by rw [beq_eq_false_iff_ne]; exact hpn
        go_wp2
        go_roundw
        case rel => exact ⟨k + 1, by omega, by go_num, HS.out, HB.out⟩
        case measure => simp [intOf]; omega
    · have h1' : ¬ (k : Int) < (l.length : Int) := by omega
      have HK := Lib.hid (show findR l n = none by rw [← HT.out, List.take_of_length_le (by omega)])
      go_wp2
      go_ret2
      exact ⟨by rw [HK.out]; rfl, HB.out⟩


set_option maxHeartbeats 4000000 in
set_option maxRecDepth 100000 in
theorem rfitk_walk (v : Value) (xs : List (List UInt8)) (w : World) (hr : KeyRow w v xs) (hcnt : xs.length ≤ 1100000) :
    Calls Tryz.prog 13 #[v] w fun e w' => e = .returned (.bool (fit5 xs)) ∧ Below w.heap.size w w' := by
  obtain ⟨a, c, rfl, hc, hm, hx⟩ := hr
  have HX := Lib.hid hx
  have HBAD := Lib.hid (fun k h => fit5_bad (l := xs) (k := k) h)
  have HDWN := Lib.hid (fun j h => fit5_down (l := xs) (j := j) h)
  have HALLF := Lib.hid (fun h1 h2 => fit5_all (l := xs) h1 h2)
  generalize fit5 xs = res at *
  clear hx
  go_enter Tryz.func13, Tryz.ntmps13
  go_wp2
  go_loopw [3] (fun i wr => ∃ k : Nat, k ≤ xs.length ∧ i = .int .i64 k ∧ (∀ x ∈ xs.take k, x.length = 32) ∧ upN (xs.take k) = true ∧ Below w.heap.size w wr) (fun i _ => xs.length - (intOf i).toNat)
  case atStart => exact ⟨0, Nat.zero_le _, rfl, by simp, rfl, Below.refl _ _⟩
  case round =>
    obtain ⟨k, hk, rfl, ha, hu, hB⟩ := hrel
    have HA := Lib.hid ha
    have HU := Lib.hid hu
    clear ha hu
    by_cases h1 : k < xs.length
    · have h1' : (k : Int) < (xs.length : Int) := by omega
      have hx := HX.out
      rcases hx with hx | ⟨b, o, rfl, hx⟩
      · exfalso; rw [hx] at h1; simp at h1
      have hc1 := cell_below hB (hx _ h1)
      have HB1 := Lib.hid (HBAD.out k h1)
      have HA1 := Lib.hid (all32_step h1 HA.out)
      by_cases hz : k = 0
      · subst hz
        have HU1 := Lib.hid (fit5_one xs)
        simp only [Nat.zero_mul, Nat.add_zero] at hc1
        have hz0 : ((0 : Nat) : Int) = 0 := rfl
        clear hx
        generalize xs[0] = y at *
        by_cases hl : y.length = 32
        · have hl' : ((y.length : Int) != 32) = false := by rw [bne_eq_false_iff_eq]; omega
          have HS := Lib.hid (HA1.out hl)
          clear hl
          go_wp2
          go_quiet (fail)
          go_wp2
          go_roundw
          case rel => exact ⟨1, by omega, by go_num, HS.out, HU1.out, belowN hB _⟩
          case measure => simp [intOf]; omega
        · have hl' : ((y.length : Int) != 32) = true := by rw [bne_iff_ne]; omega
          have HR := Lib.hid (HB1.out hl)
          clear hl
          go_wp2
          go_quiet (fail)
          go_wp2
          go_ret
          exact ⟨by rw [HR.out]; rfl, belowN hB _⟩
      · obtain ⟨j, rfl⟩ : ∃ j, k = j + 1 := ⟨k - 1, by omega⟩
        have hj : j < xs.length := by omega
        have hc2 := cell_below hB (hx _ hj)
        have HD := Lib.hid (HDWN.out j h1)
        have HUS := Lib.hid (upN_step h1)
        have hwr : IntKind.i64.wrap (j : Int) = (j : Int) := by rw [IntKind.wrap_i64]; omega
        have hpos : (0 : Int) < ((j + 1 : Nat) : Int) := by omega
        have hj' : (j : Int) < (xs.length : Int) := by omega
        clear hx hz
        generalize xs[j + 1] = y at *
        generalize xs[j] = y0 at *
        by_cases hl : y.length = 32
        · have hl' : ((y.length : Int) != 32) = false := by rw [bne_eq_false_iff_eq]; omega
          have HS := Lib.hid (HA1.out hl)
          clear hl
          have hcase : (y0 < y ∧ Op.bytesLess y0 y = true) ∨ (¬ y0 < y ∧ Op.bytesLess y0 y = false) := by
            rw [bytesLess_eq]
            by_cases h : y0 < y
            · exact .inl ⟨h, by simpa using h⟩
            · exact .inr ⟨h, by simpa using h⟩
          rcases hcase with ⟨hlt, hbl⟩ | ⟨hlt, hbl⟩
          · have HU2 := Lib.hid (show upN (xs.take (j + 2)) = true by rw [HUS.out, HU.out]; simp [hlt])
            clear hlt
            go_wp2
            go_quiet (fail)
            go_wp2
            go_roundw
            case rel => exact ⟨j + 2, by omega, by go_num, HS.out, HU2.out, belowN hB _⟩
            case measure => simp [intOf]; omega
          · have HR := Lib.hid (HD.out hlt)
            clear hlt
            go_wp2
            go_quiet (fail)
            go_wp2
            go_ret
            exact ⟨by rw [HR.out]; rfl, belowN hB _⟩
        · have hl' : ((y.length : Int) != 32) = true := by rw [bne_iff_ne]; omega
          have HR := Lib.hid (HB1.out hl)
          clear hl
          go_wp2
          go_quiet (fail)
          go_wp2
          go_ret
          exact ⟨by rw [HR.out]; rfl, belowN hB _⟩
    · have h1' : ¬ (k : Int) < (xs.length : Int) := by omega
      have HR := Lib.hid (HALLF.out (by have e := HA.out; rwa [List.take_of_length_le (by omega)] at e) (by have e := HU.out; rwa [List.take_of_length_le (by omega)] at e))
      go_wp2
      go_ret
      exact ⟨by rw [HR.out]; rfl, hB⟩

theorem rfitO_walk (v : Value) (l : List Snp) (w : World) (hr : SnpRow w v l) (hcnt : l.length ≤ 1100000) :
    Calls Tryz.prog 13 #[v] w fun e w' => e = .returned (.bool (fit5 (namesR l))) ∧ Below w.heap.size w w' :=
  rfitk_walk v (namesR l) w (KeyRow.of hr) (by rw [namesR_len]; exact hcnt)
end Go.Proofs.YtocommjoncchpaaGreatDoor

namespace Go.Proofs.YtocommjoncchpaaGreatDoor
open Go.RowKit

structure SmallO (l : List Snp) : Prop where
  len : l.length ≤ 120
  raw : ∀ x ∈ l, x.2.length ≤ 20000
  fit : fit5 (namesR l) = true
  tot : rawsL l ≤ 20000
def SmallPost (l : List Snp) (w : World) (e : Ending) (w' : World) : Prop := ∃ b : Bool, e = .returned (.bool b) ∧ (b = true → SmallO l) ∧ Below w.heap.size w w'
end Go.Proofs.YtocommjoncchpaaGreatDoor
