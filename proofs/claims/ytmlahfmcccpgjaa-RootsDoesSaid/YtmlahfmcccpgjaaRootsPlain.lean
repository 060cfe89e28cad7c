/- Trees that are kept, in plain lists. -/
import Derived.Test.YtmlahfmcccpgjaaCells
import Derived.Test.YtmlahfmcccpgjaaVarPlain
namespace Go.Proofs.Ytmlahfmcccpgjaa

def findR (l : List Snp) (n : List UInt8) : Option (List UInt8) := (l.find? (fun x => x.1 == n)).map (·.2)
def rootOf : Option (List UInt8) → List UInt8 | some r => r | none => []

theorem findR_at {l : List Snp} {n : List UInt8} {k : Nat} (h : k < l.length) (he : l[k].1 = n) (hk : findR (l.take k) n = none) : findR l n = some l[k].2 := by
  unfold findR at hk ⊢
  rw [Option.map_eq_none_iff] at hk
  have e : l = l.take k ++ l[k] :: l.drop (k + 1) := by simp
  generalize l[k] = y at e he ⊢
  rw [e, List.find?_append, hk]
  simp [he]
theorem findR_step {l : List Snp} {n : List UInt8} {k : Nat} (h : k < l.length) (he : l[k].1 ≠ n) (hk : findR (l.take k) n = none) : findR (l.take (k + 1)) n = none := by
  unfold findR at hk ⊢
  rw [Option.map_eq_none_iff] at hk ⊢
  rw [List.take_succ_eq_append_getElem h, List.find?_append, hk]
  simp [he]

def dropL1 (l : List Snp) (n : List UInt8) : List Snp := l.filter (fun y => !(y.1 == n))
def dropE (l : List Snp) (n : List UInt8) : List Snp × Int := if (findR l n).isSome then (dropL1 l n, 0) else (l, 5)
def insR (l : List Snp) (x : Snp) : List Snp := l.takeWhile (fun y => !decide (x.1 < y.1)) ++ x :: l.dropWhile (fun y => !decide (x.1 < y.1))
def putE (l : List Snp) (x : Snp) : List Snp × Int :=
  if nameB x.1 = false then (l, 7) else if x.2.length ≠ 32 then (l, 11) else if (findR l x.1).isSome then (l, 6) else if 20 ≤ l.length then (l, 9) else (insR l x, 0)

theorem dropL1_step {l : List Snp} {n : List UInt8} {k : Nat} (h : k < l.length) : dropL1 (l.take (k + 1)) n = dropL1 (l.take k) n ++ (if l[k].1 = n then [] else [l[k]]) := by
  unfold dropL1
  rw [List.take_succ_eq_append_getElem h, List.filter_append]
  by_cases hc : l[k].1 = n
  · simp [hc]
  · simp [hc]

/-- Put's round: nothing behind x seen so far, or x put. -/
theorem ins_wait {l : List Snp} {x : Snp} {k : Nat} (h : k < l.length) (ha : ∀ y ∈ l.take k, ¬ x.1 < y.1) (hn : ¬ x.1 < l[k].1) : ∀ y ∈ l.take (k + 1), ¬ x.1 < y.1 := by
  intro y hy
  rw [List.take_succ_eq_append_getElem h, List.mem_append] at hy
  rcases hy with hy | hy
  · exact ha y hy
  · simp at hy; rw [hy]; exact hn
theorem ins_now {l : List Snp} {x : Snp} {k : Nat} (h : k < l.length) (ha : ∀ y ∈ l.take k, ¬ x.1 < y.1) (hn : x.1 < l[k].1) : insR l x = (l.take k ++ [x]) ++ l.drop k := by
  have e : l = l.take k ++ l[k] :: l.drop (k + 1) := by simp
  have e2 : l.drop k = l[k] :: l.drop (k + 1) := List.drop_eq_getElem_cons h
  rw [e2]
  generalize l[k] = z at *
  clear h
  generalize l.take k = A at *
  generalize l.drop (k + 1) = B at *
  unfold insR
  rw [e, List.takeWhile_append_of_pos (by intro y hy; simpa using ha y (by simpa using hy)), List.dropWhile_append_of_pos (by intro y hy; simpa using ha y (by simpa using hy))]
  simp [hn]
theorem ins_end {l : List Snp} {x : Snp} (ha : ∀ y ∈ l, ¬ x.1 < y.1) : insR l x = l ++ [x] := by
  have h1 := List.takeWhile_append_of_pos (p := fun y : Snp => !decide (x.1 < y.1)) (l₁ := l) (l₂ := []) (by intro y hy; simpa using ha y hy)
  have h2 := List.dropWhile_append_of_pos (p := fun y : Snp => !decide (x.1 < y.1)) (l₁ := l) (l₂ := []) (by intro y hy; simpa using ha y hy)
  rw [List.append_nil] at h1 h2
  unfold insR
  rw [h1, h2]
  simp

/-- The names go up. -/
def upR : List Snp → Bool
  | a :: b :: t => decide (a.1 < b.1) && upR (b :: t)
  | _ => true
def eachR (x : Snp) : Bool := nameB x.1 && x.2.length == 32
def fitR (l : List Snp) : Bool := decide (l.length ≤ 20) && (l.all eachR && upR l)

theorem upR_append : ∀ (l : List Snp) (a b : Snp), upR (l ++ [a, b]) = (upR (l ++ [a]) && decide (a.1 < b.1))
  | [], a, b => by simp [upR]
  | [c], a, b => by simp [upR]
  | c :: d :: t, a, b => by
    have := upR_append (d :: t) a b
    simp only [List.cons_append, upR] at this ⊢
    rw [this, Bool.and_assoc]
theorem upR_step {l : List Snp} {k : Nat} (h : k + 1 < l.length) : upR (l.take (k + 2)) = (upR (l.take (k + 1)) && decide (l[k].1 < l[k + 1].1)) := by
  rw [List.take_succ_eq_append_getElem h, List.take_succ_eq_append_getElem (show k < l.length by omega), List.append_assoc]
  exact upR_append _ _ _
theorem upR_take : ∀ (l : List Snp) (k : Nat), upR l = true → upR (l.take k) = true
  | [], k, _ => by simp [upR]
  | [a], 0, _ => rfl
  | [a], k + 1, _ => by simp [upR]
  | a :: b :: t, 0, _ => rfl
  | a :: b :: t, 1, _ => by simp [upR]
  | a :: b :: t, k + 2, h => by
    simp only [upR, Bool.and_eq_true] at h
    have := upR_take (b :: t) (k + 1) h.2
    simp only [List.take_succ_cons, upR, Bool.and_eq_true] at this ⊢
    exact ⟨h.1, this⟩
theorem up_pairs : ∀ (l : List Snp), upR l = true → l.Pairwise (fun a b => a.1 < b.1)
  | [], _ => List.Pairwise.nil
  | [a], _ => by simp
  | a :: b :: t, h => by
    simp only [upR, Bool.and_eq_true, decide_eq_true_eq] at h
    have ih := up_pairs (b :: t) h.2
    refine List.Pairwise.cons ?_ ih
    intro c hc
    rcases List.mem_cons.1 hc with rfl | hc
    · exact h.1
    · exact List.lt_trans h.1 (List.rel_of_pairwise_cons ih hc)

def recordR (x : Snp) (goes : Bool) : List UInt8 :=
  if nameB x.1 = false ∨ (goes = false ∧ x.2.length ≠ 32) then [] else if goes = true then 2 :: putText x.1 else 1 :: (putText x.1 ++ x.2)
def readX (s : List UInt8) : Snp := ((takeText (s.drop 1)).1, if s[0]? = some 2 then [] else s.drop (1 + (takeText (s.drop 1)).2.1))
def readR (s : List UInt8) : Snp × Bool × Bool :=
  if s = [] then (([], []), false, false)
  else if (takeText (s.drop 1)).2.2 ≠ 0 then (([], []), false, false)
  else (readX s, s[0]? == some 2, recordR (readX s) (s[0]? == some 2) == s)
def stepR (l : List Snp) (x : Snp) (goes : Bool) : List Snp × Int := if goes = true then dropE l x.1 else putE l x
def replayR : List Snp → Nat → List (List UInt8) → List Snp × Nat
  | acc, i, [] => (acc, i)
  | acc, i, s :: ss =>
    if (readR s).2.2 = false then (acc, i)
    else if (stepR acc (readR s).1 (readR s).2.1).2 ≠ 0 then (acc, i)
    else replayR (stepR acc (readR s).1 (readR s).2.1).1 (i + 1) ss

theorem dropE_err {l : List Snp} {n : List UInt8} (h : (dropE l n).2 ≠ 0) : (dropE l n).1 = l := by
  unfold dropE at h ⊢; split
  · rw [if_pos ‹_›] at h; simp at h
  · rfl
theorem putE_err {l : List Snp} {x : Snp} (h : (putE l x).2 ≠ 0) : (putE l x).1 = l := by
  unfold putE at h ⊢
  repeat' split
  all_goals first | rfl | (simp_all)
theorem stepR_err {l : List Snp} {x : Snp} {g : Bool} (h : (stepR l x g).2 ≠ 0) : (stepR l x g).1 = l := by
  unfold stepR at h ⊢
  split
  · rw [if_pos ‹_›] at h; exact dropE_err h
  · rw [if_neg ‹_›] at h; exact putE_err h

def keysR (l : List Snp) : List (List UInt8) := l.map (·.2)
theorem keysR_step {l : List Snp} {k : Nat} (h : k < l.length) : keysR (l.take (k + 1)) = keysR (l.take k) ++ [l[k].2] := by
  unfold keysR; rw [List.take_succ_eq_append_getElem h, List.map_append]; rfl
theorem keysR_len (l : List Snp) : (keysR l).length = l.length := by simp [keysR]
end Go.Proofs.Ytmlahfmcccpgjaa
