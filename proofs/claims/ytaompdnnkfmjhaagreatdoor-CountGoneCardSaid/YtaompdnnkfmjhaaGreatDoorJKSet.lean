/- A set of keys out of keys: by one more each, and sorted and without repeats. The keys that a node names: plain. How many keys bytes name: plain. Rows of two texts each, by the first: find, put in; plain. What is reached from keys on: plain. -/
import Derived.Test.YtaompdnnkfmjhaaGreatDoorJUpN
import Derived.Lib.SlicesCompact
import Derived.Test.YtaompdnnkfmjhaaGreatDoorJNodePlain
import Derived.Test.YtaompdnnkfmjhaaGreatDoorJMapI
import Derived.Test.YtaompdnnkfmjhaaGreatDoorJPlain
namespace Go.Proofs.YtaompdnnkfmjhaaGreatDoor

def len32 (x : List UInt8) : Bool := x.length == 32
/-- The set of those keys that are keys. -/
def setOf (l : List (List UInt8)) : List (List UInt8) := (l.filter len32).foldl addL []
theorem foldl_add_up : ∀ (l s : List (List UInt8)), upS s → upS (l.foldl addL s)
  | [], _, h => h
  | _ :: l, _, h => foldl_add_up l _ (addL_up h)
theorem foldl_add_mem : ∀ (l s : List (List UInt8)) (x : List UInt8), x ∈ l.foldl addL s ↔ x ∈ l ∨ x ∈ s
  | [], s, x => by simp
  | y :: l, s, x => by
    rw [List.foldl_cons, foldl_add_mem l, addL_mem, List.mem_cons]
    constructor
    · rintro (h | h | h)
      · exact .inl (.inr h)
      · exact .inl (.inl h)
      · exact .inr h
    · rintro ((h | h) | h)
      · exact .inr (.inl h)
      · exact .inl h
      · exact .inr (.inr h)
theorem upS_nil : upS [] := List.Pairwise.nil
theorem setOf_up (l : List (List UInt8)) : upS (setOf l) := foldl_add_up _ _ upS_nil
theorem setOf_mem {l : List (List UInt8)} {x : List UInt8} : x ∈ setOf l ↔ x ∈ l ∧ x.length = 32 := by
  unfold setOf
  rw [foldl_add_mem]
  simp [len32]
theorem addL_len (l : List (List UInt8)) (k : List UInt8) : (addL l k).length ≤ l.length + 1 := by
  unfold addL
  split
  · omega
  · exact with_len (key := id) l k
theorem foldl_add_len : ∀ (l s : List (List UInt8)), (l.foldl addL s).length ≤ s.length + l.length
  | [], _ => by simp
  | y :: l, s => by
    have h := foldl_add_len l (addL s y)
    have h2 := addL_len s y
    simp only [List.foldl_cons, List.length_cons]; omega
theorem setOf_len (l : List (List UInt8)) : (setOf l).length ≤ l.length := by
  have h := foldl_add_len (l.filter len32) []
  have h2 := List.length_filter_le len32 l
  unfold setOf
  simp only [List.length_nil] at h
  omega
theorem up_ext : ∀ {a b : List (List UInt8)}, upS a → upS b → (∀ x, x ∈ a ↔ x ∈ b) → a = b
  | [], [], _, _, _ => rfl
  | [], y :: _, _, _, h => absurd ((h y).2 (by simp)) (by simp)
  | x :: _, [], _, _, h => absurd ((h x).1 (by simp)) (by simp)
  | x :: a, y :: b, ha, hb, h => by
    unfold upS at ha hb
    rw [List.pairwise_cons] at ha hb
    have hxy : x = y := by
      rcases List.mem_cons.1 ((h x).1 (by simp)) with e | e
      · exact e
      · rcases List.mem_cons.1 ((h y).2 (by simp)) with e2 | e2
        · exact e2.symm
        · exact absurd (ha.1 y e2) (List.lt_asymm (hb.1 x e))
    subst hxy
    congr 1
    refine up_ext ha.2 hb.2 fun z => ?_
    have hz := h z
    simp only [List.mem_cons] at hz
    constructor
    · intro hm
      rcases hz.1 (.inr hm) with rfl | h2
      · exact absurd (ha.1 z hm) (List.lt_irrefl z)
      · exact h2
    · intro hm
      rcases hz.2 (.inr hm) with rfl | h2
      · exact absurd (hb.1 z hm) (List.lt_irrefl z)
      · exact h2
theorem compact_inv {zs : List (List UInt8)} (hs : zs.Pairwise (· ≤ ·)) : ∀ m, m ≤ zs.length → upS (Lib.compactUpTo zs.toArray m) ∧ ∀ x, x ∈ Lib.compactUpTo zs.toArray m ↔ x ∈ zs.take m
  | 0, _ => ⟨List.Pairwise.nil, fun x => by simp [Lib.compactUpTo]⟩
  | m + 1, h => by
    obtain ⟨ih1, ih2⟩ := compact_inv hs m (by omega)
    have hm : m < zs.length := by omega
    have e : zs.toArray[m]! = zs[m] := by rw [getElem!_pos zs.toArray m (by simpa using hm)]; simp
    rw [Lib.compactUpTo_succ, List.take_succ_eq_append_getElem hm]
    by_cases hk : Lib.keeps zs.toArray m = true
    · rw [if_pos hk, e]
      refine ⟨List.pairwise_append.2 ⟨ih1, List.pairwise_singleton _ _, ?_⟩, fun x => by rw [List.mem_append, List.mem_append, ih2]⟩
      intro a ha b hb
      obtain rfl := List.mem_singleton.1 hb
      obtain ⟨i, hi, rfl⟩ := List.mem_take_iff_getElem.1 ((ih2 a).1 ha)
      have hm1 : m - 1 < zs.length := by omega
      have e1 : zs.toArray[m - 1]! = zs[m - 1] := by rw [getElem!_pos zs.toArray (m - 1) (by simpa using hm1)]; simp
      have hne : zs[m - 1] ≠ zs[m] := by
        have := of_decide_eq_true hk
        rw [e, e1] at this
        rcases this with h1 | h1
        · omega
        · exact fun h2 => h1 h2.symm
      have h1 : zs[i] ≤ zs[m - 1] := by
        by_cases hq : i = m - 1
        · subst hq; exact List.le_refl _
        · exact List.pairwise_iff_getElem.1 hs i (m - 1) _ _ (by omega)
      have h2 : zs[m - 1] ≤ zs[m] := List.pairwise_iff_getElem.1 hs (m - 1) m _ _ (by omega)
      have h3 : zs[m - 1] < zs[m] := by
        rcases lt_or_eq_or_gt zs[m - 1] zs[m] with h4 | h4 | h4
        · exact h4
        · exact absurd h4 hne
        · exact absurd h4 (List.not_lt.2 h2)
      exact List.lt_of_le_of_lt h1 h3
    · rw [if_neg hk, List.append_nil]
      refine ⟨ih1, fun x => ?_⟩
      rw [ih2, List.mem_append]
      constructor
      · exact .inl
      · rintro (h1 | h1)
        · exact h1
        · obtain rfl := List.mem_singleton.1 h1
          have hm1 : m - 1 < zs.length := by omega
          have e1 : zs.toArray[m - 1]! = zs[m - 1] := by rw [getElem!_pos zs.toArray (m - 1) (by simpa using hm1)]; simp
          have hd : ¬ (m = 0 ∨ zs[m] ≠ zs[m - 1]) := by
            intro h2
            exact hk (by unfold Lib.keeps; rw [e, e1]; exact decide_eq_true h2)
          have hd2 : zs[m] = zs[m - 1] := Classical.byContradiction fun h2 => hd (.inr h2)
          have hd3 : m ≠ 0 := fun h2 => hd (.inl h2)
          rw [hd2]
          exact List.mem_take_iff_getElem.2 ⟨m - 1, by omega, rfl⟩
theorem sort_le (l : List (List UInt8)) : (l.mergeSort fun x y => decide (x ≤ y)).Pairwise (· ≤ ·) := by
  have h := List.pairwise_mergeSort (le := fun x y : List UInt8 => decide (x ≤ y)) (fun a b c h1 h2 => decide_eq_true (List.le_trans (of_decide_eq_true h1) (of_decide_eq_true h2))) (fun a b => by rcases List.le_total a b with h | h <;> simp [h]) l
  exact h.imp fun h1 => of_decide_eq_true h1
/-- Sorted, without repeats: the set. -/
theorem compact_set (l : List (List UInt8)) : Lib.compact ((l.filter len32).mergeSort fun x y => decide (x ≤ y)) = setOf l := by
  obtain ⟨h1, h2⟩ := compact_inv (sort_le (l.filter len32)) _ (Nat.le_refl _)
  refine up_ext h1 (setOf_up l) fun x => ?_
  unfold Lib.compact
  rw [h2, List.take_length, List.mem_mergeSort, setOf_mem, List.mem_filter]
  simp [len32]
end Go.Proofs.YtaompdnnkfmjhaaGreatDoor

namespace Go.Proofs.YtaompdnnkfmjhaaGreatDoor

def kidsL (n : Nod) : List (List UInt8) := n.parts.map (fun p : Prt => p.1) ++ n.ents.map (fun e : Ent => e.2.2.2)
def kidsN (n : Nod) : List (List UInt8) := setOf (kidsL n)
theorem kidsL_len (n : Nod) : (kidsL n).length = n.parts.length + n.ents.length := by simp [kidsL]
theorem kidsN_len (n : Nod) : (kidsN n).length ≤ n.parts.length + n.ents.length := by
  have := setOf_len (kidsL n); rw [kidsL_len] at this; exact this
theorem kidsN_part {n : Nod} {p : Prt} (h : p ∈ n.parts) : p.1 ∈ kidsN n ↔ p.1.length = 32 := by
  unfold kidsN
  rw [setOf_mem]
  exact ⟨fun h1 => h1.2, fun h1 => ⟨List.mem_append.2 (.inl (List.mem_map.2 ⟨p, h, rfl⟩)), h1⟩⟩
theorem kidsN_ent {n : Nod} {e : Ent} (h : e ∈ n.ents) : e.2.2.2 ∈ kidsN n ↔ e.2.2.2.length = 32 := by
  unfold kidsN
  rw [setOf_mem]
  exact ⟨fun h1 => h1.2, fun h1 => ⟨List.mem_append.2 (.inr (List.mem_map.2 ⟨e, h, rfl⟩)), h1⟩⟩
end Go.Proofs.YtaompdnnkfmjhaaGreatDoor

namespace Go.Proofs.YtaompdnnkfmjhaaGreatDoor

theorem read_tot {s : List UInt8} (h : (readN s).2 = 0) : (readN s).1.parts.length + (readN s).1.ents.length ≤ 1084 := by
  have h1 := read_ok (s := s) (n := (readN s).1) (by rw [← h])
  obtain ⟨s1, s2, _⟩ := fit_sizes h1.1
  omega
theorem kids_bound {s : List UInt8} (h : (readN s).2 = 0) : (kidsN (readN s).1).length ≤ 1084 := by
  have h1 := read_ok (s := s) (n := (readN s).1) (by rw [← h])
  obtain ⟨s1, s2, _⟩ := fit_sizes h1.1
  have := kidsN_len (readN s).1
  omega
end Go.Proofs.YtaompdnnkfmjhaaGreatDoor

namespace Go.Proofs.YtaompdnnkfmjhaaGreatDoor

def findR (l : List Snp) (n : List UInt8) : Option (List UInt8) := (l.find? (fun x => x.1 == n)).map (·.2)
def rootOf : Option (List UInt8) → List UInt8 | some r => r | none => []

theorem findR_at {l : List Snp} {n : List UInt8} {k : Nat} (h : k < l.length) (he : l[k].1 = n) (hk : findR (l.take k) n = none) : findR l n = some l[k].2 := by
  unfold findR at hk ⊢
  rw [Option.map_eq_none_iff] at hk
  have e : l = l.take k ++ l[k] :: l.drop (k + 1) := by simp
  generalize l[k] = y at e he ⊢
  rw [e, List.find?_append, hk]
  simp [he]
theorem findR_step {l : List Snp} {n : List UInt8} {k : Nat} (h : k < l.length) (he : l[k].1 ≠ n) (hk : findR (l.take k) n = none) : findR (l.take (k + 1)) n = none := by
  unfold findR at hk ⊢
  rw [Option.map_eq_none_iff] at hk ⊢
  rw [List.take_succ_eq_append_getElem h, List.find?_append, hk]
  simp [he]

def insR (l : List Snp) (x : Snp) : List Snp := l.takeWhile (fun y => !decide (x.1 < y.1)) ++ x :: l.dropWhile (fun y => !decide (x.1 < y.1))
/-- Put's round: nothing behind x seen so far, or x put. -/
theorem ins_wait {l : List Snp} {x : Snp} {k : Nat} (h : k < l.length) (ha : ∀ y ∈ l.take k, ¬ x.1 < y.1) (hn : ¬ x.1 < l[k].1) : ∀ y ∈ l.take (k + 1), ¬ x.1 < y.1 := by
  intro y hy
  rw [List.take_succ_eq_append_getElem h, List.mem_append] at hy
  rcases hy with hy | hy
  · exact ha y hy
  · simp at hy; rw [hy]; exact hn
theorem ins_now {l : List Snp} {x : Snp} {k : Nat} (h : k < l.length) (ha : ∀ y ∈ l.take k, ¬ x.1 < y.1) (hn : x.1 < l[k].1) : insR l x = (l.take k ++ [x]) ++ l.drop k := by
  have e : l = l.take k ++ l[k] :: l.drop (k + 1) := by simp
  have e2 : l.drop k = l[k] :: l.drop (k + 1) := List.drop_eq_getElem_cons h
  rw [e2]
  generalize l[k] = z at *
  clear h
  generalize l.take k = A at *
  generalize l.drop (k + 1) = B at *
  unfold insR
  rw [e, List.takeWhile_append_of_pos (by intro y hy; simpa using ha y (by simpa using hy)), List.dropWhile_append_of_pos (by intro y hy; simpa using ha y (by simpa using hy))]
  simp [hn]
theorem ins_end {l : List Snp} {x : Snp} (ha : ∀ y ∈ l, ¬ x.1 < y.1) : insR l x = l ++ [x] := by
  have h1 := List.takeWhile_append_of_pos (p := fun y : Snp => !decide (x.1 < y.1)) (l₁ := l) (l₂ := []) (by intro y hy; simpa using ha y hy)
  have h2 := List.dropWhile_append_of_pos (p := fun y : Snp => !decide (x.1 < y.1)) (l₁ := l) (l₂ := []) (by intro y hy; simpa using ha y hy)
  rw [List.append_nil] at h1 h2
  unfold insR
  rw [h1, h2]
  simp

def namesR (l : List Snp) : List (List UInt8) := l.map (·.1)
theorem namesR_len (l : List Snp) : (namesR l).length = l.length := by simp [namesR]
theorem findR_none {l : List Snp} {n : List UInt8} (h : n ∉ namesR l) : findR l n = none := by
  unfold findR namesR at *
  rw [Option.map_eq_none_iff, List.find?_eq_none]
  intro x hx
  simp only [beq_iff_eq]
  rintro rfl
  exact h (List.mem_map_of_mem hx)
theorem findR_pos {l : List Snp} {n : List UInt8} (hu : upS (namesR l)) (h : n ∈ namesR l) : ∃ hk : posL (namesR l) n < l.length, findR l n = some l[posL (namesR l) n].2 := by
  have h1 := (mem_at_pos hu).1 h
  have hlt : posL (namesR l) n < l.length := by
    have := (List.getElem?_eq_some_iff.1 h1).1
    rwa [namesR_len] at this
  have h2 : l[posL (namesR l) n].1 = n := by
    rw [List.getElem?_eq_getElem (by rw [namesR_len]; exact hlt), Option.some.injEq] at h1
    simpa [namesR] using h1
  refine ⟨hlt, findR_at hlt h2 ?_⟩
  unfold findR
  rw [Option.map_eq_none_iff, List.find?_eq_none]
  intro x hx
  simp only [beq_iff_eq]
  rintro he
  obtain ⟨j, hj, rfl⟩ := List.mem_iff_getElem.1 hx
  rw [List.length_take] at hj
  rw [List.getElem_take] at he
  have hp := List.pairwise_iff_getElem.1 hu j (posL (namesR l) n) (by rw [namesR_len]; omega) (by rw [namesR_len]; exact hlt) (by omega)
  simp only [namesR, List.getElem_map] at hp
  rw [he] at hp
  simp only [namesR] at h2
  rw [h2] at hp
  exact List.lt_irrefl _ hp

theorem takeWhile_len {α : Type} (p : α → Bool) (l : List α) : l.take (l.takeWhile p).length = l.takeWhile p ∧ l.drop (l.takeWhile p).length = l.dropWhile p := by
  have h := List.takeWhile_append_dropWhile (p := p) (l := l)
  generalize l.takeWhile p = A at *
  generalize l.dropWhile p = D at *
  subst h
  simp
theorem insR_pos {l : List Snp} {x : Snp} (h : x.1 ∉ namesR l) : insR l x = l.take (posL (namesR l) x.1) ++ x :: l.drop (posL (namesR l) x.1) := by
  have hc : ∀ y ∈ l, (fun y : Snp => decide (y.1 < x.1)) y = (fun y : Snp => !decide (x.1 < y.1)) y := by
    intro y hy
    have hne : y.1 ≠ x.1 := by rintro e; exact h (e ▸ List.mem_map_of_mem hy)
    rcases lt_or_eq_or_gt y.1 x.1 with h1 | h1 | h1
    · simp [h1, not_lt_of h1]
    · exact absurd h1 hne
    · simp [h1, not_lt_of h1]
  have hp : posL (namesR l) x.1 = (l.takeWhile (fun y : Snp => !decide (x.1 < y.1))).length := by
    unfold posL namesR
    rw [List.takeWhile_map, List.length_map]
    congr 1
    clear h
    induction l with
    | nil => rfl
    | cons y l ih =>
      have h1 := hc y List.mem_cons_self
      simp only at h1
      simp only [List.takeWhile_cons, Function.comp, h1]
      split
      · rw [ih (fun z hz => hc z (List.mem_cons_of_mem _ hz))]
      · rfl
  obtain ⟨h1, h2⟩ := takeWhile_len (fun y : Snp => !decide (x.1 < y.1)) l
  unfold insR
  rw [hp, h1, h2]
theorem flat_ins (l : List Snp) (x : Snp) (k : Nat) : (l.flatMap snpC).take (k * 2) ++ (snpC x ++ (l.flatMap snpC).drop (k * 2)) = (l.take k ++ x :: l.drop k).flatMap snpC := by
  rw [flat_take (K := 2) (fun _ => rfl), flat_drop (K := 2) (fun _ => rfl), List.flatMap_append, List.flatMap_cons]
/-- How many bytes there are. -/
def rawsL (o : List Snp) : Nat := (o.map (fun x : Snp => x.2.length)).sum
theorem rawsL_step {l : List Snp} {k : Nat} (h : k < l.length) : rawsL (l.take (k + 1)) = rawsL (l.take k) + l[k].2.length := by
  unfold rawsL
  rw [List.take_succ_eq_append_getElem h, List.map_append, List.sum_append]; simp
end Go.Proofs.YtaompdnnkfmjhaaGreatDoor

namespace Go.Proofs.YtaompdnnkfmjhaaGreatDoor

/-- The keys that bytes name. -/
noncomputable def kidsR (raw : List UInt8) : List (List UInt8) := if (readN raw).2 = 0 then kidsN (readN raw).1 else []
noncomputable def kidsO (o : List Snp) (k : List UInt8) : List (List UInt8) := kidsR (rootOf (findR o k))
/-- What is in each set that has the first ones and is closed. -/
def Reached (o : List Snp) (P : List UInt8 → Prop) (x : List UInt8) : Prop :=
  ∀ Q : List UInt8 → Prop, (∀ k, P k → Q k) → (∀ k y, Q k → y ∈ kidsO o k → Q y) → Q x
theorem Reached.seed {o : List Snp} {P : List UInt8 → Prop} {k : List UInt8} (h : P k) : Reached o P k := fun _ h1 _ => h1 k h
theorem Reached.next {o : List Snp} {P : List UInt8 → Prop} {k y : List UInt8} (h : Reached o P k) (hy : y ∈ kidsO o k) : Reached o P y := fun Q h1 h2 => h2 k y (h Q h1 h2) hy
theorem Reached.imp {o : List Snp} {P P' : List UInt8 → Prop} {x : List UInt8} (h : Reached o P x) (hp : ∀ k, P k → P' k) : Reached o P' x := fun Q h1 h2 => h Q (fun k hk => h1 k (hp k hk)) h2
theorem kidsN_32 {n : Nod} {x : List UInt8} (h : x ∈ kidsN n) : x.length = 32 := (setOf_mem.1 h).2
theorem kidsR_32 {raw x : List UInt8} (h : x ∈ kidsR raw) : x.length = 32 := by
  unfold kidsR at h
  split at h
  · exact kidsN_32 h
  · cases h
theorem kidsR_ok {raw : List UInt8} (h : (readN raw).2 = 0) : kidsR raw = kidsN (readN raw).1 := if_pos h
theorem kidsR_bad {raw : List UInt8} (h : (readN raw).2 ≠ 0) : kidsR raw = [] := if_neg h
theorem read_nil : (readN []).2 ≠ 0 := by simp [readN, parseN]
theorem kidsR_nil : kidsR [] = [] := kidsR_bad read_nil

/-! How many there are. -/
theorem flatB_len {α : Type} (f : α → List UInt8) (n : Nat) : ∀ (l : List α), (∀ x ∈ l, n ≤ (f x).length) → n * l.length ≤ (l.flatMap f).length
  | [], _ => by simp
  | x :: l, h => by
    have h1 := flatB_len f n l (fun y hy => h y (List.mem_cons_of_mem _ hy))
    have h2 := h x (by simp)
    rw [List.flatMap_cons, List.length_append, List.length_cons, Nat.mul_succ]
    omega
theorem write_len {n : Nod} (hf : FitN n) : 32 * (n.parts.length + n.ents.length) ≤ (writeN n).length := by
  have hw : writeN n = UInt8.ofNat n.kind.toNat :: bodyN n := if_pos (fitN_iff.2 hf)
  rw [hw, List.length_cons]
  rcases hf with ⟨h1, h2, h3, h4, h5⟩ | ⟨h1, h2, h3, h4⟩ | ⟨h1, h2, h3, h4⟩
  · rw [h4, h5]; simp
  · have hb : bodyN n = putV n.parts.length ++ n.parts.flatMap partW := by unfold bodyN; rw [if_neg (by omega), if_pos h1]
    have := flatB_len partW 32 n.parts (fun p hp => by
      have := h4.ok p hp
      unfold partOk at this
      rw [Bool.and_eq_true] at this
      have h5 := of_decide_eq_true (p := p.1.length = 32) (by simpa using this.1)
      unfold partW
      rw [List.length_append]; omega)
    rw [hb, h3, List.length_append]; simp only [List.length_nil]; omega
  · have hb : bodyN n = putV n.ents.length ++ n.ents.flatMap entW := by unfold bodyN; rw [if_neg (by omega), if_neg (by omega)]
    have := flatB_len entW 32 n.ents (fun p hp => by
      have h5 := (entOk_parts (h4.ok p hp)).2.1
      unfold entW
      rw [List.length_append]; omega)
    rw [hb, h3, List.length_append]; simp only [List.length_nil]; omega
theorem kidsR_len (raw : List UInt8) : 32 * (kidsR raw).length ≤ raw.length := by
  unfold kidsR
  split
  · rename_i h
    obtain ⟨h1, h2⟩ := read_ok (s := raw) (n := (readN raw).1) (by rw [← h])
    have h3 := write_len h1
    rw [h2] at h3
    have := kidsN_len (readN raw).1
    omega
  · simp
theorem kidsR_1084 (raw : List UInt8) : (kidsR raw).length ≤ 1084 := by
  unfold kidsR
  split
  · exact kids_bound (by assumption)
  · simp
/-- All keys that objects name. -/
noncomputable def allK (o : List Snp) : List (List UInt8) := o.flatMap (fun x => kidsR x.2)
theorem allK_len : ∀ (o : List Snp), 32 * (allK o).length ≤ rawsL o
  | [] => by simp [allK, rawsL]
  | x :: o => by
    have h1 := allK_len o
    have h2 := kidsR_len x.2
    unfold allK rawsL at *
    rw [List.flatMap_cons, List.length_append, List.map_cons, List.sum_cons]
    omega
theorem kidsO_mem {o : List Snp} {k x : List UInt8} (h : x ∈ kidsO o k) : x ∈ allK o := by
  unfold kidsO at h
  cases hf : findR o k with
  | none => rw [hf] at h; simp only [rootOf] at h; rw [kidsR_nil] at h; cases h
  | some r =>
    rw [hf] at h
    simp only [rootOf] at h
    unfold findR at hf
    rw [Option.map_eq_some_iff] at hf
    obtain ⟨y, hy, rfl⟩ := hf
    exact List.mem_flatMap.2 ⟨y, List.mem_of_find?_eq_some hy, h⟩
theorem Reached.mem {o : List Snp} {P : List UInt8 → Prop} {x : List UInt8} (h : Reached o P x) : P x ∨ x ∈ allK o :=
  h (fun x => P x ∨ x ∈ allK o) (fun _ h => .inl h) (fun _ _ _ hy => .inr (kidsO_mem hy))
theorem Reached.len {o : List Snp} {P : List UInt8 → Prop} {x : List UInt8} (h : Reached o P x) (hP : ∀ k, P k → k.length = 32) : x.length = 32 :=
  h (fun x => x.length = 32) hP (fun _ _ _ hy => kidsR_32 hy)
theorem nodup_len {α : Type} [DecidableEq α] : ∀ (a b : List α), a.Nodup → (∀ x ∈ a, x ∈ b) → a.length ≤ b.length
  | [], _, _, _ => Nat.zero_le _
  | x :: a, b, hn, h => by
    rw [List.nodup_cons] at hn
    have hx := h x (by simp)
    have h1 := nodup_len a (b.erase x) hn.2 (fun y hy => (List.mem_erase_of_ne (by rintro rfl; exact hn.1 hy)).2 (h y (List.mem_cons_of_mem _ hy)))
    rw [List.length_erase_of_mem hx] at h1
    have := List.length_pos_of_mem hx
    rw [List.length_cons]; omega
theorem up_nodup {l : List (List UInt8)} (h : upS l) : l.Nodup := by
  unfold upS at h
  exact h.imp fun {a b} (hab : a < b) e => by subst e; exact List.lt_irrefl _ hab

def seedP (l : List (List UInt8)) (x : List UInt8) : Prop := x ∈ l ∧ x.length = 32
theorem GInv.nodup_few {o : List Snp} {P : List UInt8 → Prop} {q : List (List UInt8)} {l : List (List UInt8)} (hP : ∀ x, P x → x ∈ l) (hn : q.Nodup) (h : ∀ x ∈ q, Reached o P x) : 32 * q.length ≤ 32 * l.length + rawsL o := by
  have h1 := nodup_len q (l ++ allK o) hn (fun x hx => by
    rcases (h x hx).mem with h2 | h2
    · exact List.mem_append.2 (.inl (hP x h2))
    · exact List.mem_append.2 (.inr h2))
  have h2 := allK_len o
  rw [List.length_append] at h1
  omega

/-! A list that goes on by what it names (the reference). -/
def pushQ (q l : List (List UInt8)) : List (List UInt8) := l.foldl (fun q k => if k ∈ q then q else q ++ [k]) q
theorem pushQ_step {q l : List (List UInt8)} {j : Nat} (h : j < l.length) : pushQ q (l.take (j + 1)) = if l[j] ∈ pushQ q (l.take j) then pushQ q (l.take j) else pushQ q (l.take j) ++ [l[j]] := by
  unfold pushQ
  rw [List.take_succ_eq_append_getElem h, List.foldl_append]; rfl
theorem pushQ_all : ∀ (l q : List (List UInt8)), (∀ x, x ∈ pushQ q l ↔ x ∈ q ∨ x ∈ l) ∧ (q.Nodup → (pushQ q l).Nodup) ∧ q <+: pushQ q l
  | [], q => ⟨fun x => by simp [pushQ], fun h => h, List.prefix_refl _⟩
  | k :: l, q => by
    have e : pushQ q (k :: l) = pushQ (if k ∈ q then q else q ++ [k]) l := rfl
    rw [e]
    by_cases h : k ∈ q
    · rw [if_pos h]
      obtain ⟨h1, h2, h3⟩ := pushQ_all l q
      refine ⟨fun x => ?_, h2, h3⟩
      rw [h1, List.mem_cons]
      constructor
      · rintro (h4 | h4)
        · exact .inl h4
        · exact .inr (.inr h4)
      · rintro (h4 | rfl | h4)
        · exact .inl h4
        · exact .inl h
        · exact .inr h4
    · rw [if_neg h]
      obtain ⟨h1, h2, h3⟩ := pushQ_all l (q ++ [k])
      refine ⟨fun x => ?_, fun hn => h2 ?_, (List.prefix_append q [k]).trans h3⟩
      · rw [h1, List.mem_append, List.mem_singleton, List.mem_cons]
        constructor
        · rintro ((h4 | rfl) | h4)
          · exact .inl h4
          · exact .inr (.inl rfl)
          · exact .inr (.inr h4)
        · rintro (h4 | rfl | h4)
          · exact .inl (.inl h4)
          · exact .inl (.inr rfl)
          · exact .inr h4
      · rw [List.nodup_append]
        exact ⟨hn, by simp, fun a ha b hb => by rw [List.mem_singleton.1 hb]; rintro rfl; exact h ha⟩
theorem pushQ_len (l q : List (List UInt8)) : (pushQ q l).length ≤ q.length + l.length := by
  induction l generalizing q with
  | nil => exact Nat.le_refl _
  | cons k l ih =>
    have h := ih (if k ∈ q then q else q ++ [k])
    have h2 : (if k ∈ q then q else q ++ [k]).length ≤ q.length + 1 := by split <;> simp
    show (pushQ (if k ∈ q then q else q ++ [k]) l).length ≤ _
    rw [List.length_cons]; omega
theorem pushQ_take {q l : List (List UInt8)} {i : Nat} (h : i ≤ q.length) : (pushQ q l).take i = q.take i := by
  obtain ⟨_, _, ⟨t, ht⟩⟩ := pushQ_all l q
  rw [← ht, List.take_append_of_le_length h]
/-- Where the reference's loop stands: the first i have been looked at. -/
structure RInv (o : List Snp) (P : List UInt8 → Prop) (q : List (List UInt8)) (i : Nat) : Prop where
  nd : q.Nodup
  seed : ∀ x, P x → x ∈ q
  snd : ∀ x ∈ q, Reached o P x
  clo : ∀ x ∈ q.take i, ∀ y ∈ kidsO o x, y ∈ q
theorem RInv.start (o : List Snp) (l : List (List UInt8)) : RInv o (seedP l) (setOf l) 0 :=
  ⟨up_nodup (setOf_up l), fun _ h => setOf_mem.2 h, fun _ h => Reached.seed (setOf_mem.1 h), by simp⟩
theorem RInv.push {o : List Snp} {P : List UInt8 → Prop} {q : List (List UInt8)} {i : Nat} (h : RInv o P q i) (hi : i < q.length) : RInv o P (pushQ q (kidsO o q[i])) (i + 1) ∧ q.length ≤ (pushQ q (kidsO o q[i])).length := by
  obtain ⟨h1, h2, ⟨t, ht⟩⟩ := pushQ_all (kidsO o q[i]) q
  have hl : q.length ≤ (pushQ q (kidsO o q[i])).length := by rw [← ht, List.length_append]; omega
  refine ⟨⟨h2 h.nd, fun x hx => (h1 x).2 (.inl (h.seed x hx)), fun x hx => ?_, fun x hx y hy => ?_⟩, hl⟩
  · rcases (h1 x).1 hx with h3 | h3
    · exact h.snd x h3
    · exact (h.snd _ (List.getElem_mem hi)).next h3
  · rw [← ht, List.take_append_of_le_length (by omega), List.take_succ_eq_append_getElem hi, List.mem_append, List.mem_singleton] at hx
    rcases hx with hx | rfl
    · exact (h1 y).2 (.inl (h.clo x hx y hy))
    · exact (h1 y).2 (.inr hy)
theorem RInv.skip {o : List Snp} {P : List UInt8 → Prop} {q : List (List UInt8)} {i : Nat} (h : RInv o P q i) (hi : i < q.length) (hk : kidsO o q[i] = []) : RInv o P q (i + 1) := by
  have := (h.push hi).1
  rw [hk] at this
  exact this
/-- Whether the bytes of a key are there and are a node's. -/
noncomputable def okO (o : List Snp) (k : List UInt8) : Bool := (findR o k).isSome && ((readN (rootOf (findR o k))).2 == 0)
theorem okO_no {o : List Snp} {k : List UInt8} (h : okO o k = false) : kidsO o k = [] := by
  unfold okO at h
  unfold kidsO
  cases hf : findR o k with
  | none => exact kidsR_nil
  | some r =>
    rw [hf] at h
    refine kidsR_bad fun h2 => ?_
    rw [h2] at h; simp at h
theorem okO_yes {o : List Snp} {k : List UInt8} (h : okO o k = true) : (findR o k).isSome = true ∧ (readN (rootOf (findR o k))).2 = 0 ∧ kidsO o k = kidsN (readN (rootOf (findR o k))).1 := by
  unfold okO at h
  rw [Bool.and_eq_true, beq_iff_eq] at h
  exact ⟨h.1, h.2, kidsR_ok h.2⟩
theorem all_step {f : List UInt8 → Bool} {q : List (List UInt8)} {i : Nat} (h : i < q.length) : (q.take (i + 1)).all f = ((q.take i).all f && f q[i]) := by
  rw [List.take_succ_eq_append_getElem h, List.all_append]; simp
theorem RInv.done {o : List Snp} {P : List UInt8 → Prop} {q : List (List UInt8)} {i : Nat} (h : RInv o P q i) (hi : q.length ≤ i) (x : List UInt8) : x ∈ q ↔ Reached o P x :=
  ⟨h.snd x, fun hx => hx (fun y => y ∈ q) h.seed (fun k y hk hy => h.clo k (by rw [List.take_of_length_le hi]; exact hk) y hy)⟩
end Go.Proofs.YtaompdnnkfmjhaaGreatDoor
