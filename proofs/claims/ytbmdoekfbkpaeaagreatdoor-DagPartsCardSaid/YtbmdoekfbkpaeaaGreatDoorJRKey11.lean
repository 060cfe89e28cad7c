/- The reference's Key. How two texts stand; looking by halves, in plain lists. Rows of two texts each, by the first: find, put in; plain. -/
import Derived.Test.YtbmdoekfbkpaeaaGreatDoorJKeyNP
import Derived.Test.YtbmdoekfbkpaeaaGreatDoorR11c
import Derived.Test.YtbmdoekfbkpaeaaGreatDoorRSha4
import Derived.Test.YtbmdoekfbkpaeaaGreatDoorJNodePlain
import Derived.WalkLawsBesides
import Derived.Sort.Walk0
import Derived.Test.YtbmdoekfbkpaeaaGreatDoorJPlain
import Derived.Test.YtbmdoekfbkpaeaaGreatDoorRowK
namespace Go.Proofs.YtbmdoekfbkpaeaaGreatDoor
open Go.RowKit

set_option maxHeartbeats 8000000 in
set_option maxRecDepth 100000 in
theorem rkey11_walk (vp ve : Value) (n : Nod) (w : World) (hr : NodRow w n vp ve) (hd : n.data.length ≤ 1100000) (hp : n.parts.length ≤ 1100000) (he : n.ents.length ≤ 1100000) (hnl : ∀ e ∈ n.ents, e.1.length ≤ 1100000) :
    Calls Tryz.prog 62 #[NodV n vp ve] w fun e w' => e = .returned (S (keyN n)) ∧ Below w.heap.size w w' := by
  obtain ⟨w1, hw1, hB1, hz⟩ : ∃ w1, w1 = w.alloc (.cells #[.int .i64 n.kind, S n.data, vp, ve] 40) ∧ Below w.heap.size w w1 ∧ w1.heap[w.heap.size]? = some (.cells #[.int .i64 n.kind, S n.data, vp, ve] 40 (0, 0)) :=
    ⟨_, rfl, (Below.refl _ _).alloc (Nat.le_refl _) _, heap_alloc_new _ _⟩
  have hr1 := hr.below hB1
  have CF := rfit11_walk vp ve n w1 hr1 hd hp he hnl
  have CW := fun W h => rwrite11_walk vp ve n W h hd hp he hnl
  have hwl := writeN_len (n := n)
  have HR1 := Lib.hid hr1
  have HK := Lib.hid (show keyN n = if fitN n = true then shaF (writeN n) else [] from rfl)
  obtain ⟨⟨z0, z1, z2, z3⟩, -, -⟩ := box4 hz
  generalize keyN n = kn at *
  generalize writeN n = wn at *
  clear hr hr1
  go_enter Tryz.func62, Tryz.ntmps62
  go_upto_region 1 with fail
  rw [← hw1]
  clear hw1
  go_wp2_with fail
  refine CF.mono ?_
  rintro e w2 ⟨rfl, hb2⟩
  have hz2 := (hb2.block _ (heap_lt hz)).trans hz
  have hB2 := below_chain hB1 hb2 hB1.size
  have CW2 := CW w2 (HR1.out.below hb2)
  obtain ⟨⟨y0, y1, y2, y3⟩, -, -⟩ := box4 hz2
  clear CF CW hz hB1 HR1 hb2 z0 z1 z2 z3 hz2
  cases hfb : fitN n with
  | false =>
    have hk := HK.out
    rw [hfb, if_neg (by simp)] at hk
    have HK2 := Lib.hid hk
    clear hk hfb HK
    go_wp2
    go_ret
    exact ⟨by rw [HK2.out]; rfl, hB2⟩
  | true =>
    have hk := HK.out
    rw [hfb, if_pos rfl] at hk
    have HK2 := Lib.hid hk
    have CS := fun W => rsha_walk wn W (by omega)
    clear hk hfb HK
    go_wp2_with fail
    refine CW2.mono ?_
    rintro e w3 ⟨rfl, hb3⟩
    have HB3 := Lib.hid (below_chain hB2 hb3 hB2.size)
    clear CW2 hb3 hB2
    go_wp2_with fail
    refine (CS w3).mono ?_
    rintro e w4 ⟨rfl, hb4⟩
    have HB4 := Lib.hid (below_chain HB3.out hb4 HB3.out.size)
    clear hb4
    go_wp2
    go_ret
    exact ⟨by rw [HK2.out]; rfl, HB4.out⟩
end Go.Proofs.YtbmdoekfbkpaeaaGreatDoor

namespace Go.Proofs.YtbmdoekfbkpaeaaGreatDoor
open Go.RowKit

def cmpS (p n : List UInt8) : Int := if p < n then -1 else if n < p then 1 else 0
theorem cmpS_lt {p n : List UInt8} (h : p < n) : cmpS p n = -1 := by simp [cmpS, h]
theorem cmpS_eq (p : List UInt8) : cmpS p p = 0 := by simp [cmpS, List.lt_irrefl]
theorem cmpS_gt {p n : List UInt8} (h : n < p) : cmpS p n = 1 := by
  have : ¬ p < n := fun h2 => List.lt_irrefl _ (List.lt_trans h h2)
  simp [cmpS, h, this]

theorem less_true {p n : List UInt8} (h : p < n) : Op.bytesLess p n = true := by rw [bytesLess_eq]; simpa using h
theorem less_false {p n : List UInt8} (h : ¬ p < n) : Op.bytesLess p n = false := by rw [bytesLess_eq]; simpa using h
theorem not_lt_of {p n : List UInt8} (h : p < n) : ¬ n < p := fun h2 => List.lt_irrefl _ (List.lt_trans h h2)
theorem beq_of_lt {p n : List UInt8} (h : p < n) : (p == n) = false ∧ (n == p) = false := by
  constructor <;> (rw [beq_eq_false_iff_ne]; rintro rfl; exact List.lt_irrefl _ h)
/-- How two texts stand, in the walk's words. -/
theorem three_ways (p n : List UInt8) : (cmpS p n = -1 ∧ p < n ∧ Op.bytesLess p n = true ∧ Op.bytesLess n p = false ∧ (p == n) = false) ∨ (cmpS p n = 0 ∧ p = n ∧ Op.bytesLess p n = false ∧ Op.bytesLess n p = false ∧ (p == n) = true) ∨ (cmpS p n = 1 ∧ n < p ∧ Op.bytesLess p n = false ∧ Op.bytesLess n p = true ∧ (p == n) = false) := by
  rcases lt_or_eq_or_gt p n with h | h | h
  · exact .inl ⟨cmpS_lt h, h, less_true h, less_false (not_lt_of h), (beq_of_lt h).1⟩
  · subst h; exact .inr (.inl ⟨cmpS_eq _, rfl, less_false (List.lt_irrefl _), less_false (List.lt_irrefl _), by simp⟩)
  · exact .inr (.inr ⟨cmpS_gt h, h, less_false (not_lt_of h), less_true h, (beq_of_lt h).2⟩)

/-- In a rising row: how many stand ahead of n; whether n is one of them. -/
def posL (ks : List (List UInt8)) (n : List UInt8) : Nat := (ks.takeWhile (fun k => decide (k < n))).length
theorem posL_at {ks : List (List UInt8)} {n : List UInt8} {i : Nat} (hi : i ≤ ks.length) (h1 : ∀ y ∈ ks.take i, y < n) (h2 : ∀ h : i < ks.length, ¬ ks[i] < n) : posL ks n = i := by
  unfold posL
  have e : ks.takeWhile (fun k => decide (k < n)) = ks.take i ++ (ks.drop i).takeWhile (fun k => decide (k < n)) := by
    conv => lhs; rw [← List.take_append_drop i ks]
    rw [List.takeWhile_append_of_pos (by intro y hy; simpa using h1 y hy)]
  rw [e, List.length_append, List.length_take, Nat.min_eq_left hi]
  by_cases h : i < ks.length
  · rw [List.drop_eq_getElem_cons h, List.takeWhile_cons_of_neg (by simpa using h2 h)]; simp
  · rw [List.drop_eq_nil_of_le (by omega)]; simp
theorem posL_le (ks : List (List UInt8)) (n : List UInt8) : posL ks n ≤ ks.length := by
  unfold posL; exact (List.takeWhile_sublist _).length_le
def upS (ks : List (List UInt8)) : Prop := ks.Pairwise (· < ·)
theorem up_before {ks : List (List UInt8)} {n : List UInt8} {h : Nat} (hu : upS ks) (hh : h < ks.length) (hl : ks[h] < n) : ∀ y ∈ ks.take (h + 1), y < n := by
  intro y hy
  rw [List.take_succ_eq_append_getElem hh, List.mem_append] at hy
  rcases hy with hy | hy
  · obtain ⟨j, hj, rfl⟩ := List.mem_iff_getElem.1 hy
    rw [List.length_take] at hj
    rw [List.getElem_take]
    exact List.lt_trans (List.pairwise_iff_getElem.1 hu j h (by omega) hh (by omega)) hl
  · simp at hy; rw [hy]; exact hl
theorem up_behind {ks : List (List UInt8)} {n : List UInt8} {h : Nat} (hu : upS ks) (hh : h < ks.length) (hl : ¬ ks[h] < n) : ∀ y ∈ ks.drop h, ¬ y < n := by
  intro y hy hlt
  obtain ⟨j, hj, rfl⟩ := List.mem_iff_getElem.1 hy
  rw [List.length_drop] at hj
  rw [List.getElem_drop] at hlt
  rcases Nat.eq_zero_or_pos j with rfl | hp
  · exact hl (by simpa using hlt)
  · exact hl (List.lt_trans (List.pairwise_iff_getElem.1 hu h (h + j) hh (by omega) (by omega)) hlt)
theorem mem_at_pos {ks : List (List UInt8)} {n : List UInt8} (hu : upS ks) : n ∈ ks ↔ ks[posL ks n]? = some n := by
  constructor
  · intro h
    obtain ⟨j, hj, rfl⟩ := List.mem_iff_getElem.1 h
    have : posL ks ks[j] = j := by
      refine posL_at (by omega) ?_ (fun _ => List.lt_irrefl _)
      intro y hy
      obtain ⟨i, hi, rfl⟩ := List.mem_iff_getElem.1 hy
      rw [List.length_take] at hi
      rw [List.getElem_take]
      exact List.pairwise_iff_getElem.1 hu i j (by omega) hj (by omega)
    rw [this]; simp
  · intro h; exact List.mem_of_getElem? h
theorem mem_at {ks : List (List UInt8)} {n : List UInt8} (hu : upS ks) {i : Nat} (hp : posL ks n = i) (hi : i < ks.length) : decide (n ∈ ks) = (cmpS ks[i] n == 0) := by
  have hm := mem_at_pos (n := n) hu
  rw [hp] at hm
  rw [List.getElem?_eq_getElem hi, Option.some.injEq] at hm
  rcases three_ways ks[i] n with ⟨h, h1, _⟩ | ⟨h, h1, _⟩ | ⟨h, h1, _⟩
  · rw [h]; simp [hm]; rintro h2; rw [h2] at h1; exact List.lt_irrefl _ h1
  · rw [h]; simp [hm, h1]
  · rw [h]; simp [hm]; rintro h2; rw [h2] at h1; exact List.lt_irrefl _ h1
theorem mem_end {ks : List (List UInt8)} {n : List UInt8} (hu : upS ks) (hp : posL ks n = ks.length) : decide (n ∈ ks) = false := by
  have hm := mem_at_pos (n := n) hu
  rw [hp] at hm
  simp at hm
  simpa using hm
theorem half {i j : Nat} (h : i < j) : i ≤ (i + j) / 2 ∧ (i + j) / 2 < j := by omega
end Go.Proofs.YtbmdoekfbkpaeaaGreatDoor

namespace Go.Proofs.YtbmdoekfbkpaeaaGreatDoor

def findR (l : List Snp) (n : List UInt8) : Option (List UInt8) := (l.find? (fun x => x.1 == n)).map (·.2)
def rootOf : Option (List UInt8) → List UInt8 | some r => r | none => []

theorem findR_at {l : List Snp} {n : List UInt8} {k : Nat} (h : k < l.length) (he : l[k].1 = n) (hk : findR (l.take k) n = none) : findR l n = some l[k].2 := by
  unfold findR at hk ⊢
  rw [Option.map_eq_none_iff] at hk
  have e : l = l.take k ++ l[k] :: l.drop (k + 1) := by simp
  generalize l[k] = y at e he ⊢
  rw [e, List.find?_append, hk]
  simp [he]
theorem findR_step {l : List Snp} {n : List UInt8} {k : Nat} (h : k < l.length) (he : l[k].1 ≠ n) (hk : findR (l.take k) n = none) : findR (l.take (k + 1)) n = none := by
  unfold findR at hk ⊢
  rw [Option.map_eq_none_iff] at hk ⊢
  rw [List.take_succ_eq_append_getElem h, List.find?_append, hk]
  simp [he]

def insR (l : List Snp) (x : Snp) : List Snp := l.takeWhile (fun y => !decide (x.1 < y.1)) ++ x :: l.dropWhile (fun y => !decide (x.1 < y.1))
/-- Put's round: nothing behind x seen so far, or x put. -/
theorem ins_wait {l : List Snp} {x : Snp} {k : Nat} (h : k < l.length) (ha : ∀ y ∈ l.take k, ¬ x.1 < y.1) (hn : ¬ x.1 < l[k].1) : ∀ y ∈ l.take (k + 1), ¬ x.1 < y.1 := by
  intro y hy
  rw [List.take_succ_eq_append_getElem h, List.mem_append] at hy
  rcases hy with hy | hy
  · exact ha y hy
  · simp at hy; rw [hy]; exact hn
theorem ins_now {l : List Snp} {x : Snp} {k : Nat} (h : k < l.length) (ha : ∀ y ∈ l.take k, ¬ x.1 < y.1) (hn : x.1 < l[k].1) : insR l x = (l.take k ++ [x]) ++ l.drop k := by
  have e : l = l.take k ++ l[k] :: l.drop (k + 1) := by simp
  have e2 : l.drop k = l[k] :: l.drop (k + 1) := List.drop_eq_getElem_cons h
  rw [e2]
  generalize l[k] = z at *
  clear h
  generalize l.take k = A at *
  generalize l.drop (k + 1) = B at *
  unfold insR
  rw [e, List.takeWhile_append_of_pos (by intro y hy; simpa using ha y (by simpa using hy)), List.dropWhile_append_of_pos (by intro y hy; simpa using ha y (by simpa using hy))]
  simp [hn]
theorem ins_end {l : List Snp} {x : Snp} (ha : ∀ y ∈ l, ¬ x.1 < y.1) : insR l x = l ++ [x] := by
  have h1 := List.takeWhile_append_of_pos (p := fun y : Snp => !decide (x.1 < y.1)) (l₁ := l) (l₂ := []) (by intro y hy; simpa using ha y hy)
  have h2 := List.dropWhile_append_of_pos (p := fun y : Snp => !decide (x.1 < y.1)) (l₁ := l) (l₂ := []) (by intro y hy; simpa using ha y hy)
  rw [List.append_nil] at h1 h2
  unfold insR
  rw [h1, h2]
  simp

def namesR (l : List Snp) : List (List UInt8) := l.map (·.1)
theorem namesR_len (l : List Snp) : (namesR l).length = l.length := by simp [namesR]
theorem findR_none {l : List Snp} {n : List UInt8} (h : n ∉ namesR l) : findR l n = none := by
  unfold findR namesR at *
  rw [Option.map_eq_none_iff, List.find?_eq_none]
  intro x hx
  simp only [beq_iff_eq]
  rintro rfl
  exact h (List.mem_map_of_mem hx)
theorem findR_pos {l : List Snp} {n : List UInt8} (hu : upS (namesR l)) (h : n ∈ namesR l) : ∃ hk : posL (namesR l) n < l.length, findR l n = some l[posL (namesR l) n].2 := by
  have h1 := (mem_at_pos hu).1 h
  have hlt : posL (namesR l) n < l.length := by
    have := (List.getElem?_eq_some_iff.1 h1).1
    rwa [namesR_len] at this
  have h2 : l[posL (namesR l) n].1 = n := by
    rw [List.getElem?_eq_getElem (by rw [namesR_len]; exact hlt), Option.some.injEq] at h1
    simpa [namesR] using h1
  refine ⟨hlt, findR_at hlt h2 ?_⟩
  unfold findR
  rw [Option.map_eq_none_iff, List.find?_eq_none]
  intro x hx
  simp only [beq_iff_eq]
  rintro he
  obtain ⟨j, hj, rfl⟩ := List.mem_iff_getElem.1 hx
  rw [List.length_take] at hj
  rw [List.getElem_take] at he
  have hp := List.pairwise_iff_getElem.1 hu j (posL (namesR l) n) (by rw [namesR_len]; omega) (by rw [namesR_len]; exact hlt) (by omega)
  simp only [namesR, List.getElem_map] at hp
  rw [he] at hp
  simp only [namesR] at h2
  rw [h2] at hp
  exact List.lt_irrefl _ hp

theorem takeWhile_len {α : Type} (p : α → Bool) (l : List α) : l.take (l.takeWhile p).length = l.takeWhile p ∧ l.drop (l.takeWhile p).length = l.dropWhile p := by
  have h := List.takeWhile_append_dropWhile (p := p) (l := l)
  generalize l.takeWhile p = A at *
  generalize l.dropWhile p = D at *
  subst h
  simp
theorem insR_pos {l : List Snp} {x : Snp} (h : x.1 ∉ namesR l) : insR l x = l.take (posL (namesR l) x.1) ++ x :: l.drop (posL (namesR l) x.1) := by
  have hc : ∀ y ∈ l, (fun y : Snp => decide (y.1 < x.1)) y = (fun y : Snp => !decide (x.1 < y.1)) y := by
    intro y hy
    have hne : y.1 ≠ x.1 := by rintro e; exact h (e ▸ List.mem_map_of_mem hy)
    rcases lt_or_eq_or_gt y.1 x.1 with h1 | h1 | h1
    · simp [h1, not_lt_of h1]
    · exact absurd h1 hne
    · simp [h1, not_lt_of h1]
  have hp : posL (namesR l) x.1 = (l.takeWhile (fun y : Snp => !decide (x.1 < y.1))).length := by
    unfold posL namesR
    rw [List.takeWhile_map, List.length_map]
    congr 1
    clear h
    induction l with
    | nil => rfl
    | cons y l ih =>
      have h1 := hc y List.mem_cons_self
      simp only at h1
      simp only [List.takeWhile_cons, Function.comp, h1]
      split
      · rw [ih (fun z hz => hc z (List.mem_cons_of_mem _ hz))]
      · rfl
  obtain ⟨h1, h2⟩ := takeWhile_len (fun y : Snp => !decide (x.1 < y.1)) l
  unfold insR
  rw [hp, h1, h2]
theorem flat_ins (l : List Snp) (x : Snp) (k : Nat) : (l.flatMap snpC).take (k * 2) ++ (snpC x ++ (l.flatMap snpC).drop (k * 2)) = (l.take k ++ x :: l.drop k).flatMap snpC := by
  rw [flat_take (K := 2) (fun _ => rfl), flat_drop (K := 2) (fun _ => rfl), List.flatMap_append, List.flatMap_cons]
/-- How many bytes there are. -/
def rawsL (o : List Snp) : Nat := (o.map (fun x : Snp => x.2.length)).sum
theorem rawsL_step {l : List Snp} {k : Nat} (h : k < l.length) : rawsL (l.take (k + 1)) = rawsL (l.take k) + l[k].2.length := by
  unfold rawsL
  rw [List.take_succ_eq_append_getElem h, List.map_append, List.sum_append]; simp
end Go.Proofs.YtbmdoekfbkpaeaaGreatDoor
