/- Rolling hashes, and where texts are cut by them: plain. A tree's objects: plain. -/
import Derived.Test.YtaompdnnkfmjhaaGreatDoorJPlain
import Derived.Laws.BitsAllLaws
import Derived.Lib.BitFns
import Derived.Test.YtaompdnnkfmjhaaGreatDoorJKeyNP
import Derived.Test.YtaompdnnkfmjhaaGreatDoorJCMore
namespace Go.Proofs.YtaompdnnkfmjhaaGreatDoor
open Go.RowKit

def mixG (m d t : Int) : Int := IntKind.u64.wrap (bits .xor .u64 m (m / d) * t)
/-- what a byte adds. -/
def tabG (b : UInt8) : Int := mixG (mixG (mixG (IntKind.u64.wrap (IntKind.u64.wrap (IntKind.u64.wrap ((b.toNat : Nat) : Int) + 1) * 11400714819323198485)) 1073741824 13787848793156543929) 134217728 10723151780598845931) 2147483648 1
def rollG (h : Int) (b : UInt8) : Int := IntKind.u64.wrap (IntKind.u64.wrap (h * 2) + tabG b)
theorem wrap64_range (x : Int) : 0 ≤ IntKind.u64.wrap x ∧ IntKind.u64.wrap x < 18446744073709551616 := by
  rw [IntKind.wrap_u64]; omega
theorem rollG_range (h : Int) (b : UInt8) : 0 ≤ rollG h b ∧ rollG h b < 18446744073709551616 := wrap64_range _

theorem bitLenAux_le : ∀ (f x n : Nat), x < 2 ^ f → (Lib.bitLenAux f x ≤ n ↔ x < 2 ^ n)
  | 0, x, n, h => by
    have : x = 0 := by simpa using h
    subst this
    simp [Lib.bitLenAux, Nat.two_pow_pos]
  | f + 1, x, n, h => by
    unfold Lib.bitLenAux
    by_cases h0 : x = 0
    · subst h0; simp [Nat.two_pow_pos]
    · rw [if_neg h0]
      have ih := bitLenAux_le f (x / 2) (n - 1) (by rw [Nat.pow_succ] at h; omega)
      cases n with
      | zero => simp; omega
      | succ n =>
        rw [show n + 1 - 1 = n from rfl] at ih
        rw [Nat.pow_succ]
        omega
theorem bitLen_le {x n : Nat} (h : x < 18446744073709551616) : Lib.bitLen x ≤ n ↔ x < 2 ^ n := bitLenAux_le 64 x n h

/-- Is a place behind a byte one to cut at? -/
def cutB (k i : Nat) (h : Int) : Bool := if i < 2 ^ k then decide (h < 2 ^ (63 - k)) else decide (h < 2 ^ (65 - k))
def goC (k : Nat) : Nat → Int → List UInt8 → Nat
  | i, _, [] => i
  | i, h, c :: t => if cutB k i (rollG h c) = true then i + 1 else goC k (i + 1) (rollG h c) t
/-- How many bytes the first piece has. -/
def cutC (x k z : Nat) (s : List UInt8) : Nat := if s.length ≤ x then s.length else goC k x 0 ((s.take z).drop x)
def piecesF (x k z : Nat) : Nat → List UInt8 → List (List UInt8)
  | 0, _ => []
  | n + 1, s => if s = [] then [] else s.take (cutC x k z s) :: piecesF x k z n (s.drop (cutC x k z s))
def piecesC (x k z : Nat) (s : List UInt8) : List (List UInt8) := piecesF x k z s.length s
/-- Fit parameters, as numbers. -/
structure FitC (x k z : Nat) : Prop where
  x1 : 1 ≤ x
  k1 : 1 ≤ k
  k12 : k ≤ 12
  xy : x ≤ 2 ^ k
  yz : 2 ^ k ≤ z
  z4 : z ≤ 4096

theorem goC_le (k : Nat) : ∀ (l : List UInt8) (i : Nat) (h : Int), i ≤ goC k i h l ∧ goC k i h l ≤ i + l.length
  | [], i, h => by simp [goC]
  | c :: t, i, h => by
    unfold goC
    split
    · rw [List.length_cons]; omega
    · have := goC_le k t (i + 1) (rollG h c)
      rw [List.length_cons]; omega
theorem goC_at {k i j : Nat} {h : Int} {l : List UInt8} (hj : j < l.length) : goC k i h (l.drop j) = if cutB k i (rollG h l[j]) = true then i + 1 else goC k (i + 1) (rollG h l[j]) (l.drop (j + 1)) := by
  rw [List.drop_eq_getElem_cons hj]; rfl
theorem goC_end {k i j : Nat} {h : Int} {l : List UInt8} (hj : l.length ≤ j) : goC k i h (l.drop j) = i := by
  rw [List.drop_eq_nil_of_le hj]; rfl
section
variable {x k z : Nat} {s : List UInt8}
theorem cutC_le : cutC x k z s ≤ s.length := by
  unfold cutC
  split
  · exact Nat.le_refl _
  · have := (goC_le k ((s.take z).drop x) x 0).2
    rw [List.length_drop, List.length_take] at this
    omega
theorem cutC_max (hf : FitC x k z) : cutC x k z s ≤ z := by
  have h1 := hf.xy
  have h2 := hf.yz
  unfold cutC
  split
  · omega
  · have := (goC_le k ((s.take z).drop x) x 0).2
    rw [List.length_drop, List.length_take] at this
    omega
theorem cutC_pos (hf : FitC x k z) (hs : s ≠ []) : 1 ≤ cutC x k z s := by
  have h1 := hf.x1
  unfold cutC
  split
  · exact List.length_pos_iff.2 hs
  · have := (goC_le k ((s.take z).drop x) x 0).1
    omega
theorem piecesF_more (hf : FitC x k z) : ∀ (n m : Nat) (s : List UInt8), s.length ≤ n → s.length ≤ m → piecesF x k z n s = piecesF x k z m s
  | 0, m, s, h1, _ => by
    obtain rfl : s = [] := List.length_eq_zero_iff.1 (by omega)
    cases m <;> simp [piecesF]
  | n + 1, 0, s, _, h2 => by
    obtain rfl : s = [] := List.length_eq_zero_iff.1 (by omega)
    simp [piecesF]
  | n + 1, m + 1, s, h1, h2 => by
    unfold piecesF
    by_cases hs : s = []
    · rw [if_pos hs, if_pos hs]
    · have hp := cutC_pos hf hs
      rw [if_neg hs, if_neg hs, piecesF_more hf n m _ (by rw [List.length_drop]; omega) (by rw [List.length_drop]; omega)]
theorem piecesC_nil : piecesC x k z [] = [] := rfl
theorem piecesC_cons (hf : FitC x k z) (hs : s ≠ []) : piecesC x k z s = s.take (cutC x k z s) :: piecesC x k z (s.drop (cutC x k z s)) := by
  have hp := cutC_pos hf hs
  have h1 : 0 < s.length := List.length_pos_iff.2 hs
  obtain ⟨n, hn⟩ : ∃ n, s.length = n + 1 := ⟨s.length - 1, by omega⟩
  unfold piecesC
  rw [hn, piecesF, if_neg hs, piecesF_more hf n (s.drop (cutC x k z s)).length _ (by rw [List.length_drop]; omega) (Nat.le_refl _)]
theorem piecesF_all (hf : FitC x k z) : ∀ (n : Nat) (s : List UInt8), s.length ≤ n → (piecesF x k z n s).flatten = s ∧ (∀ t ∈ piecesF x k z n s, 1 ≤ t.length ∧ t.length ≤ 4096) ∧ (piecesF x k z n s).length ≤ s.length
  | 0, s, h => by
    obtain rfl : s = [] := List.length_eq_zero_iff.1 (by omega)
    simp [piecesF]
  | n + 1, s, h => by
    unfold piecesF
    by_cases hs : s = []
    · subst hs; simp
    · have hp := cutC_pos hf hs
      have hm := cutC_max (s := s) hf
      have hl : cutC x k z s ≤ s.length := cutC_le
      have hz := hf.z4
      obtain ⟨h1, h2, h3⟩ := piecesF_all hf n (s.drop (cutC x k z s)) (by rw [List.length_drop]; omega)
      rw [if_neg hs]
      refine ⟨by rw [List.flatten_cons, h1, List.take_append_drop], fun t ht => ?_, by rw [List.length_cons]; rw [List.length_drop] at h3; omega⟩
      rcases List.mem_cons.1 ht with rfl | ht
      · rw [List.length_take]; omega
      · exact h2 t ht
theorem piecesC_flat (hf : FitC x k z) : (piecesC x k z s).flatten = s := (piecesF_all hf _ s (Nat.le_refl _)).1
theorem piecesC_each (hf : FitC x k z) : ∀ t ∈ piecesC x k z s, 1 ≤ t.length ∧ t.length ≤ 4096 := (piecesF_all hf _ s (Nat.le_refl _)).2.1
theorem piecesC_len (hf : FitC x k z) : (piecesC x k z s).length ≤ s.length := (piecesF_all hf _ s (Nat.le_refl _)).2.2
end

/-! The program's words for the same. -/
/-- The number of zeros ahead of a hash. -/
theorem zeros_le {h : Int} {n : Nat} (h0 : 0 ≤ h) (h1 : h < 18446744073709551616) (hn : n ≤ 64) : ((n : Int) ≤ 64 - (Lib.bitLen h.toNat : Int)) ↔ h < 2 ^ (64 - n) := by
  have h2 := bitLen_le (x := h.toNat) (n := 64 - n) (by omega)
  have h3 : h < 2 ^ (64 - n) ↔ h.toNat < 2 ^ (64 - n) := by
    have : ((2 ^ (64 - n) : Nat) : Int) = (2 : Int) ^ (64 - n) := by rw [Int.natCast_pow]; rfl
    rw [← this]; omega
  rw [h3, ← h2]; omega
theorem cutB_lo {k i : Nat} {h : Int} (hk : k ≤ 12) (h0 : 0 ≤ h) (h1 : h < 18446744073709551616) (hi : i < 2 ^ k) : cutB k i h = !decide (64 - (Lib.bitLen h.toNat : Int) ≤ (k : Int)) := by
  have := zeros_le (n := k + 1) h0 h1 (by omega)
  unfold cutB
  rw [if_pos hi, Bool.eq_iff_iff]
  rw [show 64 - (k + 1) = 63 - k by omega] at this
  simp only [decide_eq_true_eq, Bool.not_eq_true', decide_eq_false_iff_not]
  rw [← this]; omega
theorem cutB_hi {k i : Nat} {h : Int} (hk1 : 1 ≤ k) (hk : k ≤ 12) (h0 : 0 ≤ h) (h1 : h < 18446744073709551616) (hi : ¬ i < 2 ^ k) : cutB k i h = !decide (64 - (Lib.bitLen h.toNat : Int) < (k : Int) - 1) := by
  have := zeros_le (n := k - 1) h0 h1 (by omega)
  unfold cutB
  rw [if_neg hi, Bool.eq_iff_iff]
  rw [show 64 - (k - 1) = 65 - k by omega] at this
  simp only [decide_eq_true_eq, Bool.not_eq_true', decide_eq_false_iff_not]
  rw [← this]; omega
end Go.Proofs.YtaompdnnkfmjhaaGreatDoor

namespace Go.Proofs.YtaompdnnkfmjhaaGreatDoor

/-- A path's last name. -/
def lastN (p : List UInt8) : List UInt8 := (partsL p).getLastD []
noncomputable def putN (o : List Snp) (n : Nod) : List Snp := addO o (keyN n, writeN n)
abbrev pieceN (s : List UInt8) : Nod := ⟨1, s, [], []⟩
noncomputable def partN (s : List UInt8) : Prt := (keyN (pieceN s), (s.length : Int))
noncomputable def fileN (ps : List (List UInt8)) : Nod := ⟨2, [], ps.map partN, []⟩
noncomputable def fileO (o : List Snp) (ps : List (List UInt8)) : List Snp := putN (ps.foldl (fun o s => putN o (pieceN s)) o) (fileN ps)
def inD (items : List Itm) (d : List UInt8) : List Itm := items.filter (fun x => dirL x.1 == d)
section
variable (pc : List UInt8 → List (List UInt8)) (items : List Itm)
noncomputable def entK (K : List UInt8 → List UInt8) (x : Itm) : Ent := (lastN x.1, if x.2.1 = true then 3 else 2, x.2.2.1, if x.2.1 = true then K x.1 else keyN (fileN (pc x.2.2.2)))
/-- A directory's node; n: 9 less its names. -/
noncomputable def dirN : Nat → List UInt8 → Nod
  | 0, _ => ⟨3, [], [], []⟩
  | n + 1, d => ⟨3, [], [], (inD items d).map (entK pc (fun p => keyN (dirN n p)))⟩
noncomputable def dirO : Nat → List Snp → List UInt8 → List Snp
  | 0, o, _ => putN o ⟨3, [], [], []⟩
  | n + 1, o, d => putN ((inD items d).foldl (fun o x => if x.2.1 = true then dirO n o x.1 else fileO o (pc x.2.2.2)) o) (dirN pc items (n + 1) d)
end
/-- Behind some of a directory's items. -/
noncomputable def someO (pc : List UInt8 → List (List UInt8)) (items : List Itm) (n : Nat) (o : List Snp) (l : List Itm) : List Snp :=
  l.foldl (fun o x => if x.2.1 = true then dirO pc items n o x.1 else fileO o (pc x.2.2.2)) o
theorem dirO_succ (pc : List UInt8 → List (List UInt8)) (items : List Itm) (n : Nat) (o : List Snp) (d : List UInt8) : dirO pc items (n + 1) o d = putN (someO pc items n o (inD items d)) (dirN pc items (n + 1) d) := rfl
theorem someO_snoc (pc : List UInt8 → List (List UInt8)) (items : List Itm) (n : Nat) (o : List Snp) (l : List Itm) (x : Itm) :
    someO pc items n o (l ++ [x]) = if x.2.1 = true then dirO pc items n (someO pc items n o l) x.1 else fileO (someO pc items n o l) (pc x.2.2.2) := by
  unfold someO; rw [List.foldl_append]; rfl

/-! Paths. -/
/-- How many names a directory has; none: the topmost. -/
def deepD (d : List UInt8) : Nat := if d = [] then 0 else (partsL d).length
theorem fit_parts {p : List UInt8} (h : fitB p = true) : (partsL p).length ≤ 8 ∧ (∀ x ∈ partsL p, nameB x = true) ∧ partsL p ≠ [] := by
  obtain ⟨h1, h2⟩ := (fitB_iff p).1 h
  exact ⟨h1, List.all_eq_true.1 h2, partsL_ne p⟩
theorem last_name {p : List UInt8} (h : fitB p = true) : nameB (lastN p) = true := by
  obtain ⟨h1, h2, h3⟩ := fit_parts h
  unfold lastN
  rw [List.getLastD_eq_getLast?, List.getLast?_eq_some_getLast h3]
  exact h2 _ (List.getLast_mem h3)
theorem partsL_name {n : List UInt8} (h : ∀ c ∈ n, c ≠ 47) : partsL n = [n] := by
  have h1 := partsL_depth n
  rw [List.count_eq_zero_of_not_mem (fun hm => h 47 hm rfl)] at h1
  have h2 := joinS_parts n
  match hp : partsL n, h1, h2 with
  | [a], _, h2 => rw [show a = n from h2]
theorem parts_of_dir {p : List UInt8} (h : fitB p = true) : (dirL p = [] ∧ partsL p = [lastN p]) ∨ (dirL p ≠ [] ∧ fitB (dirL p) = true ∧ partsL p = partsL (dirL p) ++ [lastN p]) := by
  rcases lastSlash p with ⟨-, hn⟩ | ⟨i, hi, -, he, ht⟩
  · have hp := partsL_name hn
    refine .inl ⟨dirL_noslash hn, ?_⟩
    unfold lastN
    rw [hp]; rfl
  · generalize p.take i = a at he
    generalize p.drop (i + 1) = t at he ht
    subst he
    clear hi
    obtain ⟨h1, h2⟩ := dirL_slash ht h
    have hp := partsL_snoc a t ht
    obtain ⟨h3, h4, _⟩ := fit_parts h
    rw [hp, List.length_append] at h3
    refine .inr ⟨by rw [h1]; exact h2, ?_, ?_⟩
    · rw [h1, fitB_iff, List.all_eq_true]
      exact ⟨by simp at h3; omega, fun x hx => h4 x (by rw [hp]; exact List.mem_append_left _ hx)⟩
    · rw [h1, hp]
      unfold lastN
      rw [hp]; simp
theorem deep_step {p : List UInt8} (h : fitB p = true) : deepD p = deepD (dirL p) + 1 ∧ deepD p ≤ 8 := by
  obtain ⟨h1, h2, h3⟩ := fit_parts h
  have hne : p ≠ [] := by rintro rfl; simp [fitB, splitL, partsL, nameB] at h
  have he : deepD p = (partsL p).length := by unfold deepD; rw [if_neg hne]
  refine ⟨?_, by rw [he]; exact h1⟩
  rw [he]
  rcases parts_of_dir h with ⟨h4, h5⟩ | ⟨h4, _, h5⟩
  · rw [h4, h5]; simp [deepD]
  · rw [h5]
    unfold deepD
    rw [if_neg h4]; simp
theorem cmp_snoc : ∀ (a : List (List UInt8)) (u v : List UInt8), cmpParts (a ++ [u]) (a ++ [v]) = -1 → u < v
  | [], u, v, h => by
    simp only [List.nil_append, cmpParts] at h
    split at h
    · assumption
    · split at h <;> simp at h
  | c :: a, u, v, h => by
    simp only [List.cons_append, cmpParts] at h
    rw [if_neg (List.lt_irrefl c), if_neg (List.lt_irrefl c)] at h
    exact cmp_snoc a u v h
theorem last_lt {p q : List UInt8} (hp : fitB p = true) (hq : fitB q = true) (hd : dirL p = dirL q) (h : ltP p q = true) : lastN p < lastN q := by
  have h1 := ltP_iff.1 h
  unfold orderL at h1
  rcases parts_of_dir hp with ⟨h4, h5⟩ | ⟨h4, _, h5⟩
  · rcases parts_of_dir hq with ⟨h6, h7⟩ | ⟨h6, _, h7⟩
    · rw [h5, h7] at h1
      exact cmp_snoc [] _ _ h1
    · exact absurd (hd ▸ h4) h6
  · rcases parts_of_dir hq with ⟨h6, h7⟩ | ⟨h6, _, h7⟩
    · exact absurd (hd ▸ h6) h4
    · rw [h5, h7, hd] at h1
      exact cmp_snoc _ _ _ h1

/-! Nodes that are fit. -/
theorem keyN_len {n : Nod} (h : FitN n) : (keyN n).length = 32 := by
  unfold keyN; rw [if_pos (fitN_iff.2 h)]; exact shaF_len _
theorem fit_piece {s : List UInt8} (h1 : 1 ≤ s.length) (h2 : s.length ≤ 4096) : FitN (pieceN s) :=
  .inl ⟨rfl, by intro h; simp only at h; rw [h] at h1; simp at h1, h2, rfl, rfl⟩
theorem whole_parts (ps : List (List UInt8)) : wholeP (ps.map partN) = (ps.flatten.length : Int) := by
  induction ps with
  | nil => rfl
  | cons p ps ih =>
    unfold wholeP at *
    rw [List.map_cons, List.map_cons, List.sum_cons, ih, List.flatten_cons, List.length_append]
    simp [partN]
theorem fit_file {ps : List (List UInt8)} (h1 : ∀ t ∈ ps, 1 ≤ t.length ∧ t.length ≤ 4096) (h2 : ps.length ≤ 1024) (h3 : ps.flatten.length ≤ 32768) : FitN (fileN ps) := by
  refine .inr (.inl ⟨rfl, rfl, rfl, ⟨by simpa [fileN] using h2, fun p hp => ?_, ?_⟩⟩)
  · obtain ⟨t, ht, rfl⟩ := List.mem_map.1 hp
    obtain ⟨h4, h5⟩ := h1 t ht
    unfold partOk partN
    simp only [keyN_len (fit_piece h4 h5), Bool.and_eq_true, beq_self_eq_true, decide_eq_true_eq, true_and]
    omega
  · show wholeP (ps.map partN) ≤ 32768
    rw [whole_parts]; omega

/-- A tree whose files' texts are cut to pieces that a node may have. -/
structure Ready (pc : List UInt8 → List (List UInt8)) (items : List Itm) : Prop where
  fit : FitT items
  each : ∀ x ∈ items, ∀ t ∈ pc x.2.2.2, 1 ≤ t.length ∧ t.length ≤ 4096
  few : ∀ x ∈ items, (pc x.2.2.2).length ≤ 1024
  flat : ∀ x ∈ items, (pc x.2.2.2).flatten = x.2.2.2
section
variable {pc : List UInt8 → List (List UInt8)} {items : List Itm}
theorem mem_inD {d : List UInt8} {x : Itm} : x ∈ inD items d ↔ x ∈ items ∧ dirL x.1 = d := by
  unfold inD; rw [List.mem_filter, beq_iff_eq]
theorem Ready.item (h : Ready pc items) {x : Itm} (hx : x ∈ items) : fitB x.1 = true ∧ oddT x = false ∧ x.2.2.2.length ≤ 32768 ∧ underT items x.1 = true := by
  have := h.fit.ok x hx
  unfold okT at this
  simp only [Bool.and_eq_true, Bool.not_eq_true', decide_eq_true_eq] at this
  exact ⟨this.1, this.2.1, this.2.2.1, this.2.2.2⟩
theorem Ready.file (h : Ready pc items) {x : Itm} (hx : x ∈ items) : FitN (fileN (pc x.2.2.2)) :=
  fit_file (h.each x hx) (h.few x hx) (by rw [h.flat x hx]; exact (h.item hx).2.2.1)
theorem Ready.dir (h : Ready pc items) : ∀ (n : Nat) (d : List UInt8), FitN (dirN pc items n d)
  | 0, d => .inr (.inr ⟨rfl, rfl, rfl, ⟨by simp [dirN], by simp [dirN], by simp [dirN, risesE]⟩⟩)
  | n + 1, d => by
    refine .inr (.inr ⟨rfl, rfl, rfl, ⟨?_, fun e he => ?_, ?_⟩⟩)
    · show ((inD items d).map _).length ≤ 60
      rw [List.length_map]
      exact Nat.le_trans (List.length_filter_le _ _) h.fit.len
    · obtain ⟨x, hx, rfl⟩ := List.mem_map.1 he
      obtain ⟨hx1, hx2⟩ := mem_inD.1 hx
      obtain ⟨h1, h2, h3, h4⟩ := h.item hx1
      have hl := last_name h1
      have hf := keyN_len (h.file hx1)
      have hd := keyN_len (h.dir n x.1)
      obtain ⟨p, isd, ex, data⟩ := x
      unfold oddT at h2
      cases isd <;> simp_all [entOk, entK]
    · show (((inD items d).map _).map _).Pairwise _
      rw [List.map_map, List.pairwise_map]
      have hu : (inD items d).Pairwise (fun a b => ltP a.1 b.1 = true) := List.Pairwise.sublist List.filter_sublist (List.pairwise_map.1 h.fit.up)
      refine List.Pairwise.imp_of_mem ?_ hu
      intro a b ha hb hab
      obtain ⟨ha1, ha2⟩ := mem_inD.1 ha
      obtain ⟨hb1, hb2⟩ := mem_inD.1 hb
      exact last_lt (h.item ha1).1 (h.item hb1).1 (by rw [ha2, hb2]) hab
end

/-! How many objects there are. -/
/-- Objects that rise, whose keys are among some. -/
def Among (ks : List (List UInt8)) (o : List Snp) : Prop := fit5 (namesR o) = true ∧ ∀ k ∈ namesR o, k ∈ ks
theorem Among.put {ks : List (List UInt8)} {o : List Snp} {n : Nod} (h : Among ks o) (hk : keyN n ∈ ks) : Among ks (putN o n) := by
  refine ⟨addO_fit h.1, fun k hk2 => ?_⟩
  unfold putN addO at hk2
  split at hk2
  · exact h.2 k hk2
  · unfold namesR at hk2
    obtain ⟨y, hy, rfl⟩ := List.mem_map.1 hk2
    rcases mem_insO.1 hy with rfl | hy
    · exact hk
    · exact h.2 _ (List.mem_map.2 ⟨y, hy, rfl⟩)
theorem nodup_le {α : Type} [DecidableEq α] : ∀ (a b : List α), a.Nodup → (∀ x ∈ a, x ∈ b) → a.length ≤ b.length
  | [], _, _, _ => by simp
  | x :: a, b, h, hs => by
    have hx := hs x List.mem_cons_self
    have h2 := List.nodup_cons.1 h
    have := nodup_le a (b.erase x) h2.2 (fun y hy => (List.mem_erase_of_ne (by rintro rfl; exact h2.1 hy)).2 (hs y (List.mem_cons_of_mem _ hy)))
    rw [List.length_erase_of_mem hx] at this
    have : 0 < b.length := List.length_pos_of_mem hx
    simp; omega
theorem Among.len {ks : List (List UInt8)} {o : List Snp} (h : Among ks o) : o.length ≤ ks.length := by
  have hn : (namesR o).Nodup := List.Pairwise.imp (fun hab => by rintro rfl; exact List.lt_irrefl _ hab) (fit5_up12 h.1)
  have := nodup_le _ _ hn h.2
  rwa [namesR_len] at this
section
variable (pc : List UInt8 → List (List UInt8)) (items : List Itm)
noncomputable def keysI (x : Itm) : List (List UInt8) := keyN (dirN pc items (9 - deepD x.1) x.1) :: keyN (fileN (pc x.2.2.2)) :: (pc x.2.2.2).map (fun s => keyN (pieceN s))
noncomputable def keysT : List (List UInt8) := keyN (dirN pc items 9 []) :: items.flatMap (keysI pc items)
end
section
variable {pc : List UInt8 → List (List UInt8)} {items : List Itm}
theorem keysI_mem {x : Itm} (hx : x ∈ items) {k : List UInt8} (h : k ∈ keysI pc items x) : k ∈ keysT pc items := List.mem_cons_of_mem _ (List.mem_flatMap.2 ⟨x, hx, h⟩)
theorem among_pieces {ks : List (List UInt8)} : ∀ (ps : List (List UInt8)) {o : List Snp}, Among ks o → (∀ s ∈ ps, keyN (pieceN s) ∈ ks) → Among ks (ps.foldl (fun o s => putN o (pieceN s)) o)
  | [], _, h, _ => h
  | s :: ps, _, h, hk => among_pieces ps (h.put (hk s List.mem_cons_self)) (fun t ht => hk t (List.mem_cons_of_mem _ ht))
theorem among_file {o : List Snp} (h : Among (keysT pc items) o) {x : Itm} (hx : x ∈ items) : Among (keysT pc items) (fileO o (pc x.2.2.2)) :=
  (among_pieces _ h (fun s hs => keysI_mem hx (List.mem_cons_of_mem _ (List.mem_cons_of_mem _ (List.mem_map.2 ⟨s, hs, rfl⟩))))).put (keysI_mem hx (List.mem_cons_of_mem _ List.mem_cons_self))
/-- A directory of a tree's. -/
def DirOf (items : List Itm) (d : List UInt8) : Prop := d = [] ∨ ∃ x ∈ items, x.1 = d
theorem dir_key {d : List UInt8} {n : Nat} (hd : DirOf items d) (hn : n + deepD d = 9) : keyN (dirN pc items n d) ∈ keysT pc items := by
  rcases hd with rfl | ⟨x, hx, rfl⟩
  · rw [show n = 9 by simpa [deepD] using hn]; exact List.mem_cons_self
  · rw [show n = 9 - deepD x.1 by omega]; exact keysI_mem hx List.mem_cons_self
theorem Ready.among (h : Ready pc items) : ∀ (n : Nat) (d : List UInt8) (o : List Snp), DirOf items d → n + deepD d = 9 → Among (keysT pc items) o → Among (keysT pc items) (dirO pc items n o d)
  | 0, d, o, hd, hn, ha => by
    have := dir_key (pc := pc) hd hn
    exact ha.put this
  | n + 1, d, o, hd, hn, ha => by
    rw [dirO_succ]
    refine Among.put ?_ (dir_key hd hn)
    have : ∀ (l : List Itm) (o : List Snp), (∀ x ∈ l, x ∈ inD items d) → Among (keysT pc items) o → Among (keysT pc items) (someO pc items n o l) := by
      intro l
      induction l with
      | nil => intro o _ ha; exact ha
      | cons x l ih =>
        intro o hl ha
        obtain ⟨hx1, hx2⟩ := mem_inD.1 (hl x List.mem_cons_self)
        refine ih _ (fun y hy => hl y (List.mem_cons_of_mem _ hy)) ?_
        show Among _ (if x.2.1 = true then _ else _)
        split
        · refine h.among n x.1 o (.inr ⟨x, hx1, rfl⟩) ?_ ha
          have := (deep_step (h.item hx1).1).1
          rw [hx2] at this; omega
        · exact among_file ha hx1
    exact this _ o (fun x hx => hx) ha
theorem Ready.keys_len (h : Ready pc items) : (keysT pc items).length ≤ 70000 := by
  have h1 := h.fit.len
  have : ∀ (l : List Itm), (∀ x ∈ l, x ∈ items) → (l.flatMap (keysI pc items)).length ≤ 1026 * l.length := by
    intro l
    induction l with
    | nil => intro _; simp
    | cons x l ih =>
      intro hl
      have h2 := ih (fun y hy => hl y (List.mem_cons_of_mem _ hy))
      have h3 := h.few x (hl x List.mem_cons_self)
      rw [List.flatMap_cons, List.length_append, List.length_cons]
      simp only [keysI, List.length_cons, List.length_map]; omega
  have h2 := this items (fun _ hx => hx)
  unfold keysT
  rw [List.length_cons]; omega
end
end Go.Proofs.YtaompdnnkfmjhaaGreatDoor
