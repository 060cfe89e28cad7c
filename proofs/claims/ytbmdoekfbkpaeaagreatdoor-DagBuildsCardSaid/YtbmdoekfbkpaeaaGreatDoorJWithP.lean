/- A row that rises, with one more: plain. A set and one more: plain. Objects, and one more: plain. A tree's objects: plain. -/
import Derived.Test.YtbmdoekfbkpaeaaGreatDoorJDiskPlain
import Derived.Test.YtbmdoekfbkpaeaaGreatDoorJRowG
import Derived.Test.YtbmdoekfbkpaeaaGreatDoorJKeyNP
import Derived.Test.YtbmdoekfbkpaeaaGreatDoorTreePlain
import Derived.Test.YtbmdoekfbkpaeaaGreatDoorJBase
namespace Go.Proofs.YtbmdoekfbkpaeaaGreatDoor
open Go.RowKit

section
variable {α : Type} {key : α → List UInt8}
theorem filt_all {L : List α} {f : α} (h : ∀ x ∈ L, key x < key f) : L.filter (fun y => decide (key y < key f)) = L := by
  rw [List.filter_eq_self]; intro x hx; simpa using h x hx
theorem filt_none {L : List α} {f : α} (h : ∀ x ∈ L, key x < key f) : L.filter (fun y => decide (key f < key y)) = [] := by
  rw [List.filter_eq_nil_iff]; intro x hx; simp only [decide_eq_true_eq]; exact fun h2 => List.lt_asymm (h x hx) h2
theorem with_end {L : List α} {f : α} (h : ∀ x ∈ L, key x < key f) : withK key L f = L ++ [f] := by
  unfold withK
  rw [filt_all h, filt_none h]
theorem with_first {L : List α} {f y : α} (h : ∀ x ∈ L, key x < key f) (hy : ¬ key y < key f) : withK key (L ++ [y]) f = L ++ [f] ++ (if (key y == key f) = true then [] else [y]) := by
  unfold withK
  rw [List.filter_append, List.filter_append, filt_all h, filt_none h]
  by_cases e : key y = key f
  · simp [e, List.lt_irrefl]
  · have hl : key f < key y := by
      by_cases h1 : key f < key y
      · exact h1
      · exact absurd (List.le_antisymm (List.not_lt.1 h1) (List.not_lt.1 hy)) e
    simp [e, hy, hl]
theorem with_more {L : List α} {f y : α} (hy : key f < key y) : withK key (L ++ [y]) f = withK key L f ++ [y] := by
  unfold withK
  rw [List.filter_append, List.filter_append]
  have h2 : ¬ key y < key f := List.lt_asymm hy
  simp [hy, h2]
theorem with_len (L : List α) (f : α) : (withK key L f).length ≤ L.length + 1 := by
  unfold withK
  have h : ∀ L : List α, (L.filter (fun y => decide (key y < key f))).length + (L.filter (fun y => decide (key f < key y))).length ≤ L.length := by
    intro L
    induction L with
    | nil => simp
    | cons x xs ih =>
      by_cases h1 : key x < key f
      · have h2 : ¬ key f < key x := List.lt_asymm h1
        simp [h1, h2]; omega
      · by_cases h2 : key f < key x
        · simp [h1, h2]; omega
        · simp [h1, h2]; omega
  have := h L
  simp only [List.length_append, List.length_cons]; omega
theorem up_last {l : List α} {k : Nat} (hu : upS (l.map key)) (h : k < l.length) : ∀ x ∈ l.take k, key x < key l[k] := by
  intro x hx
  have h2 := hu
  unfold upS at h2
  rw [List.pairwise_map] at h2
  obtain ⟨i, hi, rfl⟩ := List.mem_take_iff_getElem.1 hx
  exact List.pairwise_iff_getElem.1 h2 i k _ h (by omega)
end

theorem own_base {w : World} {B B' e K n : Nat} {v : Value} {xs : List Value} (h : w.ownsRow B e K v n xs) (hB : B' ≤ B) : w.ownsRow B' e K v n xs := by
  obtain ⟨h1, h2⟩ := h
  refine ⟨h1, ?_⟩
  rcases h2 with h2 | ⟨g, cap, cur, hv, hb, h3⟩
  · exact .inl h2
  · exact .inr ⟨g, cap, cur, hv, by omega, h3⟩
end Go.Proofs.YtbmdoekfbkpaeaaGreatDoor

namespace Go.Proofs.YtbmdoekfbkpaeaaGreatDoor
open Go.RowKit

/-- A set and one more. -/
def addL (l : List (List UInt8)) (k : List UInt8) : List (List UInt8) := if k ∈ l then l else withK id l k
theorem addL_up {l : List (List UInt8)} {k : List UInt8} (hu : upS l) : upS (addL l k) := by
  unfold addL
  split
  · exact hu
  · have h := withK_up' (key := (id : List UInt8 → List UInt8)) (l := l) (f := k) (by simpa using hu)
    simpa using h
theorem addL_mem {l : List (List UInt8)} {k x : List UInt8} : x ∈ addL l k ↔ x = k ∨ x ∈ l := by
  unfold addL
  split
  · rename_i h
    exact ⟨.inr, fun h2 => by rcases h2 with rfl | h2; exact h; exact h2⟩
  · unfold withK
    simp only [List.mem_append, List.mem_filter, List.mem_cons, id, decide_eq_true_eq]
    constructor
    · rintro (⟨h, _⟩ | h | ⟨h, _⟩)
      · exact .inr h
      · exact .inl h
      · exact .inr h
    · rintro (h | h)
      · exact .inr (.inl h)
      · by_cases h1 : x < k
        · exact .inl ⟨h, h1⟩
        · by_cases h2 : k < x
          · exact .inr (.inr ⟨h, h2⟩)
          · exact .inr (.inl (List.le_antisymm (List.not_lt.1 h2) (List.not_lt.1 h1)))
/-- Where the loop stands. -/
def AddSt (l : List (List UInt8)) (k : List UInt8) (n : Nat) (d : Value) (out : List (List UInt8)) : Prop :=
  (d = .bool false ∧ out = l.take n ∧ ∀ x ∈ l.take n, x < k) ∨ (d = .bool true ∧ out = withK id (l.take n) k ∧ ∃ x ∈ l.take n, k < x)
theorem add_start (l : List (List UInt8)) (k : List UInt8) : AddSt l k 0 (.bool false) [] := .inl ⟨rfl, by simp, by simp⟩
theorem add_less {l : List (List UInt8)} {k y : List UInt8} {n : Nat} {out : List (List UInt8)} (h : n < l.length) (hy : l[n] = y) (hs : AddSt l k n (.bool false) out) (hl : y < k) : AddSt l k (n + 1) (.bool false) (out ++ [y]) := by
  rcases hs with ⟨_, h1, h2⟩ | ⟨h1, _⟩
  · refine .inl ⟨rfl, by rw [List.take_succ_eq_append_getElem h, h1, hy], fun x hx => ?_⟩
    rw [List.take_succ_eq_append_getElem h, List.mem_append] at hx
    rcases hx with hx | hx
    · exact h2 x hx
    · simp only [List.mem_singleton] at hx; rw [hx, hy]; exact hl
  · cases h1
theorem add_put {l : List (List UInt8)} {k y : List UInt8} {n : Nat} {out : List (List UInt8)} (h : n < l.length) (hy : l[n] = y) (hs : AddSt l k n (.bool false) out) (hl : k < y) : AddSt l k (n + 1) (.bool true) (out ++ [k] ++ [y]) := by
  rcases hs with ⟨_, h1, h2⟩ | ⟨h1, _⟩
  · refine .inr ⟨rfl, ?_, y, ?_, hl⟩
    · rw [List.take_succ_eq_append_getElem h, h1, hy, with_first (key := id) h2 (fun h3 => List.lt_asymm hl h3), if_neg]
      simp only [id, beq_iff_eq]
      intro e; rw [e] at hl; exact List.lt_irrefl _ hl
    · rw [List.take_succ_eq_append_getElem h, hy]; simp
  · cases h1
theorem add_on {l : List (List UInt8)} {k y : List UInt8} {n : Nat} {out : List (List UInt8)} (hu : upS l) (h : n < l.length) (hy : l[n] = y) (hs : AddSt l k n (.bool true) out) : k < y ∧ AddSt l k (n + 1) (.bool true) (out ++ [y]) := by
  rcases hs with ⟨h1, _⟩ | ⟨_, h1, x, hx, h2⟩
  · cases h1
  · have h3 := up_last (key := id) (by simpa using hu) h x hx
    have h4 : k < y := by
      rw [hy] at h3
      exact List.lt_trans h2 h3
    refine ⟨h4, .inr ⟨rfl, by rw [List.take_succ_eq_append_getElem h, h1, hy, with_more (key := id) h4], x, ?_, h2⟩⟩
    rw [List.take_succ_eq_append_getElem h, List.mem_append]; exact .inl hx
theorem own_mono {w : World} {B C e K n : Nat} {v : Value} {xs : List Value} (hBC : B ≤ C) (h : w.ownsRow C e K v n xs) : w.ownsRow B e K v n xs := by
  obtain ⟨h1, h2⟩ := h
  refine ⟨h1, ?_⟩
  rcases h2 with h2 | ⟨g, cap, cur, rfl, hb, h3⟩
  · exact .inl h2
  · exact .inr ⟨g, cap, cur, rfl, Nat.le_trans hBC hb, h3⟩
theorem s_one (k : List UInt8) : ∀ u ∈ [S k], u.oneCell' = true := by intro u hu; simp at hu; subst hu; rfl
end Go.Proofs.YtbmdoekfbkpaeaaGreatDoor

namespace Go.Proofs.YtbmdoekfbkpaeaaGreatDoor

def addO (l : List Snp) (x : Snp) : List Snp := if (findR l x.1).isSome = true ∨ x.1.length ≠ 32 then l else insR l x
theorem findR_is {l : List Snp} {n : List UInt8} (hu : upS (namesR l)) : (findR l n).isSome = decide (n ∈ namesR l) := by
  by_cases hin : n ∈ namesR l
  · obtain ⟨_, hf⟩ := findR_pos hu hin
    rw [hf]; simp [hin]
  · rw [findR_none hin]; simp [hin]
theorem names_ins {l : List Snp} {x : Snp} (hu : upS (namesR l)) (hx : x.1 ∉ namesR l) : namesR (insR l x) = addL (namesR l) x.1 := by
  have h2 := withK_up (key := (id : List UInt8 → List UInt8)) (l := namesR l) (f := x.1) (by simpa using hu)
  rw [insR_pos hx]
  unfold addL
  rw [if_neg hx, h2]
  simp only [List.map_id, id]
  rw [if_neg hx]
  simp [namesR, List.map_take, List.map_drop]
theorem insO_len {l : List Snp} {x : Snp} (hx : x.1 ∉ namesR l) : (insR l x).length = l.length + 1 := by
  have h := posL_le (namesR l) x.1
  rw [namesR_len] at h
  rw [insR_pos hx]; simp; omega
theorem addO_len (l : List Snp) (x : Snp) : (addO l x).length ≤ l.length + 1 := by
  unfold addO
  split
  · omega
  · rw [show (insR l x).length = l.length + 1 from by
      unfold insR
      have := congrArg List.length (List.takeWhile_append_dropWhile (p := fun y => !decide (x.1 < y.1)) (l := l))
      rw [List.length_append] at this
      simp only [List.length_append, List.length_cons]; omega]
    exact Nat.le_refl _
theorem mem_insO {l : List Snp} {x y : Snp} : y ∈ insR l x ↔ y = x ∨ y ∈ l := by
  unfold insR
  rw [List.mem_append, List.mem_cons]
  have h : y ∈ l ↔ y ∈ l.takeWhile (fun y => !decide (x.1 < y.1)) ∨ y ∈ l.dropWhile (fun y => !decide (x.1 < y.1)) := by
    rw [← List.mem_append, List.takeWhile_append_dropWhile]
  rw [h]
  constructor
  · rintro (h1 | h1 | h1)
    · exact .inr (.inl h1)
    · exact .inl h1
    · exact .inr (.inr h1)
  · rintro (h1 | h1 | h1)
    · exact .inr (.inl h1)
    · exact .inl h1
    · exact .inr (.inr h1)
theorem upN_of12 : ∀ {l : List (List UInt8)}, upS l → upN l = true
  | [], _ => rfl
  | [_], _ => rfl
  | a :: b :: t, h => by
    unfold upN
    unfold upS at h
    rw [Bool.and_eq_true, decide_eq_true_eq]
    exact ⟨(List.pairwise_cons.1 h).1 b (by simp), upN_of12 (l := b :: t) (List.pairwise_cons.1 h).2⟩
theorem fit5_up12 {m : List (List UInt8)} (h : fit5 m = true) : upS m := by
  unfold fit5 at h
  rw [Bool.and_eq_true] at h
  exact upN_pairs _ h.2
theorem fit5_len12 {l : List (List UInt8)} (h : fit5 l = true) : ∀ x ∈ l, x.length = 32 := by
  unfold fit5 at h
  rw [Bool.and_eq_true, List.all_eq_true] at h
  intro x hx
  simpa using h.1 x hx
theorem addO_fit {l : List Snp} {x : Snp} (h : fit5 (namesR l) = true) : fit5 (namesR (addO l x)) = true := by
  unfold addO
  split
  · exact h
  · rename_i hc
    have hu := fit5_up12 h
    have hx : x.1 ∉ namesR l := fun hin => hc (.inl (by rw [findR_is hu]; simpa using hin))
    have h32 : x.1.length = 32 := Classical.byContradiction fun h => hc (.inr h)
    rw [names_ins hu hx]
    refine fit5_all (fun y hy => ?_) (upN_of12 (addL_up hu))
    rcases addL_mem.1 hy with rfl | hy
    · exact h32
    · exact fit5_len12 h y hy
theorem find_mem : ∀ {l : List Snp}, upS (namesR l) → ∀ y ∈ l, findR l y.1 = some y.2
  | z :: t, hu, y, hy => by
    unfold namesR upS at hu
    rw [List.map_cons, List.pairwise_cons] at hu
    unfold findR
    by_cases h : z.1 = y.1
    · rcases List.mem_cons.1 hy with rfl | hy
      · rw [List.find?_cons_of_pos (by simp)]; rfl
      · exact absurd (hu.1 y.1 (List.mem_map.2 ⟨y, hy, rfl⟩)) (by rw [h]; exact List.lt_irrefl _)
    · rcases List.mem_cons.1 hy with rfl | hy
      · exact absurd rfl h
      · have ih := find_mem (l := t) hu.2 y hy
        unfold findR at ih
        rw [List.find?_cons_of_neg (by simpa using h)]; exact ih
/-- What was added is found, and all that was there. -/
theorem addO_finds {l : List Snp} {x : Snp} (hu : upS (namesR l)) (hx : x.1 ∉ namesR l) : findR (insR l x) x.1 = some x.2 ∧ ∀ y ∈ l, findR (insR l x) y.1 = some y.2 := by
  have h := addL_up (k := x.1) hu
  rw [← names_ins hu hx] at h
  exact ⟨find_mem h x (mem_insO.2 (.inl rfl)), fun y hy => find_mem h y (mem_insO.2 (.inr hy))⟩
end Go.Proofs.YtbmdoekfbkpaeaaGreatDoor

namespace Go.Proofs.YtbmdoekfbkpaeaaGreatDoor

/-- A path's last name. -/
def lastN (p : List UInt8) : List UInt8 := (partsL p).getLastD []
noncomputable def putN (o : List Snp) (n : Nod) : List Snp := addO o (keyN n, writeN n)
abbrev pieceN (s : List UInt8) : Nod := ⟨1, s, [], []⟩
noncomputable def partN (s : List UInt8) : Prt := (keyN (pieceN s), (s.length : Int))
noncomputable def fileN (ps : List (List UInt8)) : Nod := ⟨2, [], ps.map partN, []⟩
noncomputable def fileO (o : List Snp) (ps : List (List UInt8)) : List Snp := putN (ps.foldl (fun o s => putN o (pieceN s)) o) (fileN ps)
def inD (items : List Itm) (d : List UInt8) : List Itm := items.filter (fun x => dirL x.1 == d)
section
variable (pc : List UInt8 → List (List UInt8)) (items : List Itm)
noncomputable def entK (K : List UInt8 → List UInt8) (x : Itm) : Ent := (lastN x.1, if x.2.1 = true then 3 else 2, x.2.2.1, if x.2.1 = true then K x.1 else keyN (fileN (pc x.2.2.2)))
/-- A directory's node; n: 9 less its names. -/
noncomputable def dirN : Nat → List UInt8 → Nod
  | 0, _ => ⟨3, [], [], []⟩
  | n + 1, d => ⟨3, [], [], (inD items d).map (entK pc (fun p => keyN (dirN n p)))⟩
noncomputable def dirO : Nat → List Snp → List UInt8 → List Snp
  | 0, o, _ => putN o ⟨3, [], [], []⟩
  | n + 1, o, d => putN ((inD items d).foldl (fun o x => if x.2.1 = true then dirO n o x.1 else fileO o (pc x.2.2.2)) o) (dirN pc items (n + 1) d)
end
/-- Behind some of a directory's items. -/
noncomputable def someO (pc : List UInt8 → List (List UInt8)) (items : List Itm) (n : Nat) (o : List Snp) (l : List Itm) : List Snp :=
  l.foldl (fun o x => if x.2.1 = true then dirO pc items n o x.1 else fileO o (pc x.2.2.2)) o
theorem dirO_succ (pc : List UInt8 → List (List UInt8)) (items : List Itm) (n : Nat) (o : List Snp) (d : List UInt8) : dirO pc items (n + 1) o d = putN (someO pc items n o (inD items d)) (dirN pc items (n + 1) d) := rfl
theorem someO_snoc (pc : List UInt8 → List (List UInt8)) (items : List Itm) (n : Nat) (o : List Snp) (l : List Itm) (x : Itm) :
    someO pc items n o (l ++ [x]) = if x.2.1 = true then dirO pc items n (someO pc items n o l) x.1 else fileO (someO pc items n o l) (pc x.2.2.2) := by
  unfold someO; rw [List.foldl_append]; rfl

/-! Paths. -/
/-- How many names a directory has; none: the topmost. -/
def deepD (d : List UInt8) : Nat := if d = [] then 0 else (partsL d).length
theorem fit_parts {p : List UInt8} (h : fitB p = true) : (partsL p).length ≤ 8 ∧ (∀ x ∈ partsL p, nameB x = true) ∧ partsL p ≠ [] := by
  obtain ⟨h1, h2⟩ := (fitB_iff p).1 h
  exact ⟨h1, List.all_eq_true.1 h2, partsL_ne p⟩
theorem last_name {p : List UInt8} (h : fitB p = true) : nameB (lastN p) = true := by
  obtain ⟨h1, h2, h3⟩ := fit_parts h
  unfold lastN
  rw [List.getLastD_eq_getLast?, List.getLast?_eq_some_getLast h3]
  exact h2 _ (List.getLast_mem h3)
theorem partsL_name {n : List UInt8} (h : ∀ c ∈ n, c ≠ 47) : partsL n = [n] := by
  have h1 := partsL_depth n
  rw [List.count_eq_zero_of_not_mem (fun hm => h 47 hm rfl)] at h1
  have h2 := joinS_parts n
  match hp : partsL n, h1, h2 with
  | [a], _, h2 => rw [show a = n from h2]
theorem parts_of_dir {p : List UInt8} (h : fitB p = true) : (dirL p = [] ∧ partsL p = [lastN p]) ∨ (dirL p ≠ [] ∧ fitB (dirL p) = true ∧ partsL p = partsL (dirL p) ++ [lastN p]) := by
  rcases lastSlash p with ⟨-, hn⟩ | ⟨i, hi, -, he, ht⟩
  · have hp := partsL_name hn
    refine .inl ⟨dirL_noslash hn, ?_⟩
    unfold lastN
    rw [hp]; rfl
  · generalize p.take i = a at he
    generalize p.drop (i + 1) = t at he ht
    subst he
    clear hi
    obtain ⟨h1, h2⟩ := dirL_slash ht h
    have hp := partsL_snoc a t ht
    obtain ⟨h3, h4, _⟩ := fit_parts h
    rw [hp, List.length_append] at h3
    refine .inr ⟨by rw [h1]; exact h2, ?_, ?_⟩
    · rw [h1, fitB_iff, List.all_eq_true]
      exact ⟨by simp at h3; omega, fun x hx => h4 x (by rw [hp]; exact List.mem_append_left _ hx)⟩
    · rw [h1, hp]
      unfold lastN
      rw [hp]; simp
theorem deep_step {p : List UInt8} (h : fitB p = true) : deepD p = deepD (dirL p) + 1 ∧ deepD p ≤ 8 := by
  obtain ⟨h1, h2, h3⟩ := fit_parts h
  have hne : p ≠ [] := by rintro rfl; simp [fitB, splitL, partsL, nameB] at h
  have he : deepD p = (partsL p).length := by unfold deepD; rw [if_neg hne]
  refine ⟨?_, by rw [he]; exact h1⟩
  rw [he]
  rcases parts_of_dir h with ⟨h4, h5⟩ | ⟨h4, _, h5⟩
  · rw [h4, h5]; simp [deepD]
  · rw [h5]
    unfold deepD
    rw [if_neg h4]; simp
theorem cmp_snoc : ∀ (a : List (List UInt8)) (u v : List UInt8), cmpParts (a ++ [u]) (a ++ [v]) = -1 → u < v
  | [], u, v, h => by
    simp only [List.nil_append, cmpParts] at h
    split at h
    · assumption
    · split at h <;> simp at h
  | c :: a, u, v, h => by
    simp only [List.cons_append, cmpParts] at h
    rw [if_neg (List.lt_irrefl c), if_neg (List.lt_irrefl c)] at h
    exact cmp_snoc a u v h
theorem last_lt {p q : List UInt8} (hp : fitB p = true) (hq : fitB q = true) (hd : dirL p = dirL q) (h : ltP p q = true) : lastN p < lastN q := by
  have h1 := ltP_iff.1 h
  unfold orderL at h1
  rcases parts_of_dir hp with ⟨h4, h5⟩ | ⟨h4, _, h5⟩
  · rcases parts_of_dir hq with ⟨h6, h7⟩ | ⟨h6, _, h7⟩
    · rw [h5, h7] at h1
      exact cmp_snoc [] _ _ h1
    · exact absurd (hd ▸ h4) h6
  · rcases parts_of_dir hq with ⟨h6, h7⟩ | ⟨h6, _, h7⟩
    · exact absurd (hd ▸ h6) h4
    · rw [h5, h7, hd] at h1
      exact cmp_snoc _ _ _ h1

/-! Nodes that are fit. -/
theorem keyN_len {n : Nod} (h : FitN n) : (keyN n).length = 32 := by
  unfold keyN; rw [if_pos (fitN_iff.2 h)]; exact shaF_len _
theorem fit_piece {s : List UInt8} (h1 : 1 ≤ s.length) (h2 : s.length ≤ 4096) : FitN (pieceN s) :=
  .inl ⟨rfl, by intro h; simp only at h; rw [h] at h1; simp at h1, h2, rfl, rfl⟩
theorem whole_parts (ps : List (List UInt8)) : wholeP (ps.map partN) = (ps.flatten.length : Int) := by
  induction ps with
  | nil => rfl
  | cons p ps ih =>
    unfold wholeP at *
    rw [List.map_cons, List.map_cons, List.sum_cons, ih, List.flatten_cons, List.length_append]
    simp [partN]
theorem fit_file {ps : List (List UInt8)} (h1 : ∀ t ∈ ps, 1 ≤ t.length ∧ t.length ≤ 4096) (h2 : ps.length ≤ 1024) (h3 : ps.flatten.length ≤ 32768) : FitN (fileN ps) := by
  refine .inr (.inl ⟨rfl, rfl, rfl, ⟨by simpa [fileN] using h2, fun p hp => ?_, ?_⟩⟩)
  · obtain ⟨t, ht, rfl⟩ := List.mem_map.1 hp
    obtain ⟨h4, h5⟩ := h1 t ht
    unfold partOk partN
    simp only [keyN_len (fit_piece h4 h5), Bool.and_eq_true, beq_self_eq_true, decide_eq_true_eq, true_and]
    omega
  · show wholeP (ps.map partN) ≤ 32768
    rw [whole_parts]; omega

/-- A tree whose files' texts are cut to pieces that a node may have. -/
structure Ready (pc : List UInt8 → List (List UInt8)) (items : List Itm) : Prop where
  fit : FitT items
  each : ∀ x ∈ items, ∀ t ∈ pc x.2.2.2, 1 ≤ t.length ∧ t.length ≤ 4096
  few : ∀ x ∈ items, (pc x.2.2.2).length ≤ 1024
  flat : ∀ x ∈ items, (pc x.2.2.2).flatten = x.2.2.2
section
variable {pc : List UInt8 → List (List UInt8)} {items : List Itm}
theorem mem_inD {d : List UInt8} {x : Itm} : x ∈ inD items d ↔ x ∈ items ∧ dirL x.1 = d := by
  unfold inD; rw [List.mem_filter, beq_iff_eq]
theorem Ready.item (h : Ready pc items) {x : Itm} (hx : x ∈ items) : fitB x.1 = true ∧ oddT x = false ∧ x.2.2.2.length ≤ 32768 ∧ underT items x.1 = true := by
  have := h.fit.ok x hx
  unfold okT at this
  simp only [Bool.and_eq_true, Bool.not_eq_true', decide_eq_true_eq] at this
  exact ⟨this.1, this.2.1, this.2.2.1, this.2.2.2⟩
theorem Ready.file (h : Ready pc items) {x : Itm} (hx : x ∈ items) : FitN (fileN (pc x.2.2.2)) :=
  fit_file (h.each x hx) (h.few x hx) (by rw [h.flat x hx]; exact (h.item hx).2.2.1)
theorem Ready.dir (h : Ready pc items) : ∀ (n : Nat) (d : List UInt8), FitN (dirN pc items n d)
  | 0, d => .inr (.inr ⟨rfl, rfl, rfl, ⟨by simp [dirN], by simp [dirN], by simp [dirN, risesE]⟩⟩)
  | n + 1, d => by
    refine .inr (.inr ⟨rfl, rfl, rfl, ⟨?_, fun e he => ?_, ?_⟩⟩)
    · show ((inD items d).map _).length ≤ 60
      rw [List.length_map]
      exact Nat.le_trans (List.length_filter_le _ _) h.fit.len
    · obtain ⟨x, hx, rfl⟩ := List.mem_map.1 he
      obtain ⟨hx1, hx2⟩ := mem_inD.1 hx
      obtain ⟨h1, h2, h3, h4⟩ := h.item hx1
      have hl := last_name h1
      have hf := keyN_len (h.file hx1)
      have hd := keyN_len (h.dir n x.1)
      obtain ⟨p, isd, ex, data⟩ := x
      unfold oddT at h2
      cases isd <;> simp_all [entOk, entK]
    · show (((inD items d).map _).map _).Pairwise _
      rw [List.map_map, List.pairwise_map]
      have hu : (inD items d).Pairwise (fun a b => ltP a.1 b.1 = true) := List.Pairwise.sublist List.filter_sublist (List.pairwise_map.1 h.fit.up)
      refine List.Pairwise.imp_of_mem ?_ hu
      intro a b ha hb hab
      obtain ⟨ha1, ha2⟩ := mem_inD.1 ha
      obtain ⟨hb1, hb2⟩ := mem_inD.1 hb
      exact last_lt (h.item ha1).1 (h.item hb1).1 (by rw [ha2, hb2]) hab
end

/-! How many objects there are. -/
/-- Objects that rise, whose keys are among some. -/
def Among (ks : List (List UInt8)) (o : List Snp) : Prop := fit5 (namesR o) = true ∧ ∀ k ∈ namesR o, k ∈ ks
theorem Among.put {ks : List (List UInt8)} {o : List Snp} {n : Nod} (h : Among ks o) (hk : keyN n ∈ ks) : Among ks (putN o n) := by
  refine ⟨addO_fit h.1, fun k hk2 => ?_⟩
  unfold putN addO at hk2
  split at hk2
  · exact h.2 k hk2
  · unfold namesR at hk2
    obtain ⟨y, hy, rfl⟩ := List.mem_map.1 hk2
    rcases mem_insO.1 hy with rfl | hy
    · exact hk
    · exact h.2 _ (List.mem_map.2 ⟨y, hy, rfl⟩)
theorem nodup_le {α : Type} [DecidableEq α] : ∀ (a b : List α), a.Nodup → (∀ x ∈ a, x ∈ b) → a.length ≤ b.length
  | [], _, _, _ => by simp
  | x :: a, b, h, hs => by
    have hx := hs x List.mem_cons_self
    have h2 := List.nodup_cons.1 h
    have := nodup_le a (b.erase x) h2.2 (fun y hy => (List.mem_erase_of_ne (by rintro rfl; exact h2.1 hy)).2 (hs y (List.mem_cons_of_mem _ hy)))
    rw [List.length_erase_of_mem hx] at this
    have : 0 < b.length := List.length_pos_of_mem hx
    simp; omega
theorem Among.len {ks : List (List UInt8)} {o : List Snp} (h : Among ks o) : o.length ≤ ks.length := by
  have hn : (namesR o).Nodup := List.Pairwise.imp (fun hab => by rintro rfl; exact List.lt_irrefl _ hab) (fit5_up12 h.1)
  have := nodup_le _ _ hn h.2
  rwa [namesR_len] at this
section
variable (pc : List UInt8 → List (List UInt8)) (items : List Itm)
noncomputable def keysI (x : Itm) : List (List UInt8) := keyN (dirN pc items (9 - deepD x.1) x.1) :: keyN (fileN (pc x.2.2.2)) :: (pc x.2.2.2).map (fun s => keyN (pieceN s))
noncomputable def keysT : List (List UInt8) := keyN (dirN pc items 9 []) :: items.flatMap (keysI pc items)
end
section
variable {pc : List UInt8 → List (List UInt8)} {items : List Itm}
theorem keysI_mem {x : Itm} (hx : x ∈ items) {k : List UInt8} (h : k ∈ keysI pc items x) : k ∈ keysT pc items := List.mem_cons_of_mem _ (List.mem_flatMap.2 ⟨x, hx, h⟩)
theorem among_pieces {ks : List (List UInt8)} : ∀ (ps : List (List UInt8)) {o : List Snp}, Among ks o → (∀ s ∈ ps, keyN (pieceN s) ∈ ks) → Among ks (ps.foldl (fun o s => putN o (pieceN s)) o)
  | [], _, h, _ => h
  | s :: ps, _, h, hk => among_pieces ps (h.put (hk s List.mem_cons_self)) (fun t ht => hk t (List.mem_cons_of_mem _ ht))
theorem among_file {o : List Snp} (h : Among (keysT pc items) o) {x : Itm} (hx : x ∈ items) : Among (keysT pc items) (fileO o (pc x.2.2.2)) :=
  (among_pieces _ h (fun s hs => keysI_mem hx (List.mem_cons_of_mem _ (List.mem_cons_of_mem _ (List.mem_map.2 ⟨s, hs, rfl⟩))))).put (keysI_mem hx (List.mem_cons_of_mem _ List.mem_cons_self))
/-- A directory of a tree's. -/
def DirOf (items : List Itm) (d : List UInt8) : Prop := d = [] ∨ ∃ x ∈ items, x.1 = d
theorem dir_key {d : List UInt8} {n : Nat} (hd : DirOf items d) (hn : n + deepD d = 9) : keyN (dirN pc items n d) ∈ keysT pc items := by
  rcases hd with rfl | ⟨x, hx, rfl⟩
  · rw [show n = 9 by simpa [deepD] using hn]; exact List.mem_cons_self
  · rw [show n = 9 - deepD x.1 by omega]; exact keysI_mem hx List.mem_cons_self
theorem Ready.among (h : Ready pc items) : ∀ (n : Nat) (d : List UInt8) (o : List Snp), DirOf items d → n + deepD d = 9 → Among (keysT pc items) o → Among (keysT pc items) (dirO pc items n o d)
  | 0, d, o, hd, hn, ha => by
    have := dir_key (pc := pc) hd hn
    exact ha.put this
  | n + 1, d, o, hd, hn, ha => by
    rw [dirO_succ]
    refine Among.put ?_ (dir_key hd hn)
    have : ∀ (l : List Itm) (o : List Snp), (∀ x ∈ l, x ∈ inD items d) → Among (keysT pc items) o → Among (keysT pc items) (someO pc items n o l) := by
      intro l
      induction l with
      | nil => intro o _ ha; exact ha
      | cons x l ih =>
        intro o hl ha
        obtain ⟨hx1, hx2⟩ := mem_inD.1 (hl x List.mem_cons_self)
        refine ih _ (fun y hy => hl y (List.mem_cons_of_mem _ hy)) ?_
        show Among _ (if x.2.1 = true then _ else _)
        split
        · refine h.among n x.1 o (.inr ⟨x, hx1, rfl⟩) ?_ ha
          have := (deep_step (h.item hx1).1).1
          rw [hx2] at this; omega
        · exact among_file ha hx1
    exact this _ o (fun x hx => hx) ha
theorem Ready.keys_len (h : Ready pc items) : (keysT pc items).length ≤ 70000 := by
  have h1 := h.fit.len
  have : ∀ (l : List Itm), (∀ x ∈ l, x ∈ items) → (l.flatMap (keysI pc items)).length ≤ 1026 * l.length := by
    intro l
    induction l with
    | nil => intro _; simp
    | cons x l ih =>
      intro hl
      have h2 := ih (fun y hy => hl y (List.mem_cons_of_mem _ hy))
      have h3 := h.few x (hl x List.mem_cons_self)
      rw [List.flatMap_cons, List.length_append, List.length_cons]
      simp only [keysI, List.length_cons, List.length_map]; omega
  have h2 := this items (fun _ hx => hx)
  unfold keysT
  rw [List.length_cons]; omega
end
end Go.Proofs.YtbmdoekfbkpaeaaGreatDoor
