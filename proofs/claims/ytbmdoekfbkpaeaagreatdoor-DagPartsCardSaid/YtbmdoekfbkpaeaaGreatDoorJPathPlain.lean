/- Plain laws of paths: the directory by the last slash, parts and joins. Disks, in plain words: files, what may be lost of them, bytes laid on a text. No program in sight. -/
import Derived.Test.YtbmdoekfbkpaeaaGreatDoorJPlain
import Derived.Lib.LastIndexByte
namespace Go.Proofs.YtbmdoekfbkpaeaaGreatDoor

theorem partsL_snoc : ∀ (a t : List UInt8), (∀ c ∈ t, c ≠ 47) → partsL (a ++ 47 :: t) = partsL a ++ [t]
  | [], t, h => by
    show partsL (47 :: t) = [[]] ++ [t]
    rw [partsL, if_pos rfl, partsL_noslash t h]; rfl
  | c :: a, t, h => by
    have ih := partsL_snoc a t h
    show partsL (c :: (a ++ 47 :: t)) = _
    rw [partsL, partsL]
    by_cases hc : c = 47
    · rw [if_pos hc, if_pos hc, ih]; rfl
    · rw [if_neg hc, if_neg hc, ih]
      cases hp : partsL a with
      | nil => exact absurd hp (partsL_ne a)
      | cons p ps => rfl

theorem joinS_cons (c : UInt8) (p : List UInt8) (ps : List (List UInt8)) : joinS ((c :: p) :: ps) = c :: joinS (p :: ps) := by
  cases ps <;> rfl
theorem joinS_nil (ps : List (List UInt8)) (h : ps ≠ []) : joinS ([] :: ps) = 47 :: joinS ps := by
  cases ps with
  | nil => exact absurd rfl h
  | cons p ps => rfl

theorem joinS_parts : ∀ l : List UInt8, joinS (partsL l) = l
  | [] => rfl
  | c :: t => by
    have ih := joinS_parts t
    unfold partsL
    split
    · rename_i h; rw [joinS_nil _ (partsL_ne t), ih, h]
    · cases hp : partsL t with
      | nil => exact absurd hp (partsL_ne t)
      | cons p ps => rw [hp] at ih; show joinS ((c :: p) :: ps) = _; rw [joinS_cons, ih]

theorem fitB_iff (l : List UInt8) : fitB l = true ↔ (partsL l).length ≤ 8 ∧ (partsL l).all nameB = true := by
  unfold fitB splitL
  have := List.length_pos_iff.2 (partsL_ne l)
  split <;> simp_all
theorem splitL_fit {l : List UInt8} (h : fitB l = true) : splitL l = partsL l := by
  unfold splitL; rw [if_pos ((fitB_iff l).1 h)]
theorem splitL_unfit {l : List UInt8} (h : fitB l = false) : splitL l = [] := by
  unfold fitB at h; simpa using h

theorem dirL_unfit {l : List UInt8} (h : fitB l = false) : dirL l = [] := by
  unfold dirL; rw [splitL_unfit h]; rfl
theorem dirL_noslash {l : List UInt8} (h : ∀ c ∈ l, c ≠ 47) : dirL l = [] := by
  unfold dirL splitL
  rw [partsL_noslash l h]
  split <;> rfl
theorem nameB_nil : nameB [] = false := rfl
theorem dirL_slash {a t : List UInt8} (h : ∀ c ∈ t, c ≠ 47) (hf : fitB (a ++ 47 :: t) = true) : dirL (a ++ 47 :: t) = a ∧ a ≠ [] := by
  have hp := partsL_snoc a t h
  have hs := splitL_fit hf
  obtain ⟨h1, h2⟩ := (fitB_iff _).1 hf
  have hl := List.length_pos_iff.2 (partsL_ne a)
  rw [hp] at h1 h2 hs
  rw [List.all_append, Bool.and_eq_true] at h2
  simp only [List.length_append, List.length_cons, List.length_nil] at h1
  constructor
  · unfold dirL
    rw [hs, if_neg (by simp; omega)]
    have : (partsL a ++ [t]).take ((partsL a ++ [t]).length - 1) = partsL a := by simp
    rw [this]
    unfold joinL
    rw [if_pos ⟨by omega, h2.1⟩, joinS_parts]
  · rintro rfl
    simp [partsL, nameB_nil] at h2

/-- The last slash. -/
theorem lastSlash (l : List UInt8) :
    (Lib.lastIndexByte ⟨l.toArray⟩ 47 = -1 ∧ ∀ c ∈ l, c ≠ 47) ∨
    (∃ i : Nat, ∃ _ : i < l.length, Lib.lastIndexByte ⟨l.toArray⟩ 47 = i ∧ l = l.take i ++ 47 :: l.drop (i + 1) ∧ ∀ c ∈ l.drop (i + 1), c ≠ 47) := by
  have hne : ∀ j (hj : j < l.length), ((((⟨l.toArray⟩ : ByteArray).data[j]!).toNat : Int) ≠ 47) → l[j] ≠ 47 := by
    intro j hj h e
    apply h
    rw [getElem!_pos (⟨l.toArray⟩ : ByteArray).data j (by simpa using hj)]
    simp [e]
  rcases Lib.lastIndexByte_spec ⟨l.toArray⟩ 47 with ⟨h1, h2⟩ | ⟨i, hi, h1, h2, h3⟩
  · refine .inl ⟨h1, fun c hc => ?_⟩
    obtain ⟨j, hj, rfl⟩ := List.mem_iff_getElem.1 hc
    exact hne j hj (h2 j hj)
  · have hi' : i < l.length := hi
    refine .inr ⟨i, hi', h1, ?_, ?_⟩
    · have : l[i] = 47 := by
        rw [getElem!_pos (⟨l.toArray⟩ : ByteArray).data i (by simpa using hi')] at h2
        apply UInt8.toNat_inj.1
        simp at h2 ⊢; omega
      rw [← this, ← List.drop_eq_getElem_cons hi', List.take_append_drop]
    · intro c hc
      obtain ⟨j, hj, rfl⟩ := List.mem_iff_getElem.1 hc
      rw [List.getElem_drop]
      simp at hj
      exact hne _ (by omega) (h3 _ (by omega) (by show _ < l.length; omega))

/-! How two paths stand (P9.5). -/
theorem cmpParts_self : ∀ xs : List (List UInt8), cmpParts xs xs = 0
  | [] => rfl
  | a :: x => by rw [cmpParts, if_neg (List.lt_irrefl a), if_neg (List.lt_irrefl a), cmpParts_self x]
theorem cmpParts_anti : ∀ xs ys : List (List UInt8), cmpParts ys xs = -cmpParts xs ys
  | [], [] => rfl
  | [], _ :: _ => rfl
  | _ :: _, [] => rfl
  | a :: x, b :: y => by
    have ih := cmpParts_anti x y
    rw [cmpParts, cmpParts]
    rcases lt_or_eq_or_gt a b with h | h | h
    · rw [if_neg (List.not_lt.2 (List.le_of_lt h)), if_pos h, if_pos h]; rfl
    · subst h; rw [if_neg (List.lt_irrefl a), if_neg (List.lt_irrefl a), if_neg (List.lt_irrefl a), if_neg (List.lt_irrefl a), ih]
    · rw [if_pos h, if_neg (List.not_lt.2 (List.le_of_lt h)), if_pos h]
theorem cmpParts_eq : ∀ xs ys : List (List UInt8), cmpParts xs ys = 0 → xs = ys
  | [], [], _ => rfl
  | [], _ :: _, h => by cases h
  | _ :: _, [], h => by cases h
  | a :: x, b :: y, h => by
    rw [cmpParts] at h
    rcases lt_or_eq_or_gt a b with h1 | h1 | h1
    · rw [if_pos h1] at h; cases h
    · subst h1; rw [if_neg (List.lt_irrefl a), if_neg (List.lt_irrefl a)] at h; rw [cmpParts_eq x y h]
    · rw [if_neg (List.not_lt.2 (List.le_of_lt h1)), if_pos h1] at h; cases h
theorem cmpParts_cases : ∀ xs ys : List (List UInt8), cmpParts xs ys = -1 ∨ cmpParts xs ys = 0 ∨ cmpParts xs ys = 1
  | [], [] => .inr (.inl rfl)
  | [], _ :: _ => .inl rfl
  | _ :: _, [] => .inr (.inr rfl)
  | a :: x, b :: y => by
    have ih := cmpParts_cases x y
    rw [cmpParts]
    split
    · exact .inl rfl
    · split
      · exact .inr (.inr rfl)
      · exact ih
theorem cmpParts_trans : ∀ xs ys zs : List (List UInt8), cmpParts xs ys = -1 → cmpParts ys zs = -1 → cmpParts xs zs = -1
  | [], [], _, h, _ => by cases h
  | [], _ :: _, [], _, h => by cases h
  | [], _ :: _, _ :: _, _, _ => rfl
  | _ :: _, [], _, h, _ => by cases h
  | _ :: _, _ :: _, [], _, h => by cases h
  | a :: x, b :: y, c :: z, h1, h2 => by
    have ih := cmpParts_trans x y z
    rw [cmpParts] at h1 h2 ⊢
    rcases lt_or_eq_or_gt a b with h | h | h
    · rcases lt_or_eq_or_gt b c with h' | h' | h'
      · rw [if_pos (List.lt_trans h h')]
      · subst h'; rw [if_pos h]
      · rw [if_neg (List.not_lt.2 (List.le_of_lt h')), if_pos h'] at h2; cases h2
    · subst h
      rw [if_neg (List.lt_irrefl a), if_neg (List.lt_irrefl a)] at h1
      rcases lt_or_eq_or_gt a c with h' | h' | h'
      · rw [if_pos h']
      · subst h'
        rw [if_neg (List.lt_irrefl a), if_neg (List.lt_irrefl a)] at h2 ⊢
        exact ih h1 h2
      · rw [if_neg (List.not_lt.2 (List.le_of_lt h')), if_pos h'] at h2; cases h2
    · rw [if_neg (List.not_lt.2 (List.le_of_lt h)), if_pos h] at h1; cases h1
theorem cmpParts_append : ∀ xs ys : List (List UInt8), ys ≠ [] → cmpParts xs (xs ++ ys) = -1
  | [], [], h => absurd rfl h
  | [], _ :: _, _ => rfl
  | a :: x, ys, h => by
    show cmpParts (a :: x) (a :: (x ++ ys)) = -1
    rw [cmpParts, if_neg (List.lt_irrefl a), if_neg (List.lt_irrefl a), cmpParts_append x ys h]
theorem cmpParts_less : ∀ xs zs : List (List UInt8), cmpParts xs zs = -1 → (∃ ys, ys ≠ [] ∧ zs = xs ++ ys) ∨ ∀ us, cmpParts (xs ++ us) zs = -1
  | [], [], h => by cases h
  | [], z :: zs, _ => .inl ⟨z :: zs, by simp, rfl⟩
  | _ :: _, [], h => by cases h
  | a :: x, b :: z, h => by
    rw [cmpParts] at h
    rcases lt_or_eq_or_gt a b with h' | h' | h'
    · right
      intro us
      show cmpParts (a :: (x ++ us)) (b :: z) = -1
      rw [cmpParts, if_pos h']
    · subst h'
      rw [if_neg (List.lt_irrefl a), if_neg (List.lt_irrefl a)] at h
      rcases cmpParts_less x z h with ⟨ys, h1, h2⟩ | h1
      · exact .inl ⟨ys, h1, by rw [h2]; rfl⟩
      · right
        intro us
        show cmpParts (a :: (x ++ us)) (a :: z) = -1
        rw [cmpParts, if_neg (List.lt_irrefl a), if_neg (List.lt_irrefl a), h1]
    · rw [if_neg (List.not_lt.2 (List.le_of_lt h')), if_pos h'] at h; cases h

theorem partsL_append : ∀ a c : List UInt8, partsL (a ++ 47 :: c) = partsL a ++ partsL c
  | [], c => by
    show partsL (47 :: c) = [[]] ++ partsL c
    rw [partsL, if_pos rfl]; rfl
  | x :: a, c => by
    have ih := partsL_append a c
    show partsL (x :: (a ++ 47 :: c)) = _
    rw [partsL, partsL]
    by_cases hx : x = 47
    · rw [if_pos hx, if_pos hx, ih]; rfl
    · rw [if_neg hx, if_neg hx, ih]
      cases hp : partsL a with
      | nil => exact absurd hp (partsL_ne a)
      | cons p ps => rfl
theorem joinS_append : ∀ xs ys : List (List UInt8), xs ≠ [] → ys ≠ [] → joinS (xs ++ ys) = joinS xs ++ 47 :: joinS ys
  | [], _, h, _ => absurd rfl h
  | [a], [], _, h => absurd rfl h
  | [a], y :: ys, _, _ => rfl
  | a :: b :: t, ys, _, h => by
    have ih := joinS_append (b :: t) ys (by simp) h
    show a ++ 47 :: joinS (b :: t ++ ys) = (a ++ 47 :: joinS (b :: t)) ++ 47 :: joinS ys
    rw [ih]; simp

theorem orderL_self (l : List UInt8) : orderL l l = 0 := cmpParts_self _
theorem orderL_anti (l m : List UInt8) : orderL m l = -orderL l m := cmpParts_anti _ _
theorem orderL_eq {l m : List UInt8} (h : orderL l m = 0) : l = m := by
  have := cmpParts_eq _ _ h
  rw [← joinS_parts l, ← joinS_parts m, this]
theorem orderL_cases (l m : List UInt8) : orderL l m = -1 ∨ orderL l m = 0 ∨ orderL l m = 1 := cmpParts_cases _ _
theorem orderL_trans {a b c : List UInt8} (h1 : orderL a b = -1) (h2 : orderL b c = -1) : orderL a c = -1 := cmpParts_trans _ _ _ h1 h2
theorem orderL_below (a c : List UInt8) : orderL a (a ++ 47 :: c) = -1 := by
  unfold orderL; rw [partsL_append]; exact cmpParts_append _ _ (partsL_ne c)
theorem orderL_between {a b : List UInt8} (c : List UInt8) (h : orderL a b = -1) : (∃ t, b = a ++ 47 :: t) ∨ orderL (a ++ 47 :: c) b = -1 := by
  rcases cmpParts_less _ _ h with ⟨ys, h1, h2⟩ | h1
  · left
    have := congrArg joinS h2
    rw [joinS_parts, joinS_append _ _ (partsL_ne a) h1, joinS_parts] at this
    exact ⟨_, this⟩
  · right
    unfold orderL; rw [partsL_append]; exact h1 _

/-! Depth (P9.1, P9.2). -/
theorem partsL_depth : ∀ l : List UInt8, (partsL l).length = 1 + l.count 47
  | [] => rfl
  | c :: t => by
    have ih := partsL_depth t
    unfold partsL
    split
    · rename_i h; subst h; simp; omega
    · rename_i h
      rw [List.count_cons_of_ne h]
      cases hp : partsL t with
      | nil => exact absurd hp (partsL_ne t)
      | cons p ps => rw [hp] at ih; exact ih
theorem nameB_noslash {n : List UInt8} (h : nameB n = true) : ∀ c ∈ n, c ≠ 47 := by
  unfold nameB at h
  rw [Bool.and_eq_true] at h
  intro c hc e
  have := List.all_eq_true.1 h.2 c hc
  rw [e] at this; cases this
theorem fitB_below {s n : List UInt8} (h : fitB s = true) : fitB (s ++ 47 :: n) = (decide ((partsL s).length < 8) && fitB n && decide ((splitL n).length ≤ 8 - (partsL s).length)) := by
  obtain ⟨h1, h2⟩ := (fitB_iff s).1 h
  have hp := List.length_pos_iff.2 (partsL_ne n)
  have hq := List.length_pos_iff.2 (partsL_ne s)
  rw [Bool.eq_iff_iff, fitB_iff, partsL_append, List.all_append, h2, List.length_append]
  simp only [Bool.true_and, Bool.and_eq_true, decide_eq_true_eq]
  constructor
  · rintro ⟨a, b⟩
    have hf : fitB n = true := (fitB_iff n).2 ⟨by omega, b⟩
    rw [splitL_fit hf]
    exact ⟨⟨by omega, hf⟩, by omega⟩
  · rintro ⟨⟨a, b⟩, c⟩
    rw [splitL_fit b] at c
    exact ⟨by omega, ((fitB_iff n).1 b).2⟩
theorem dirL_below {s n : List UInt8} (h : fitB s = true) (hn : nameB n = true) (hk : (partsL s).length < 8) : dirL (s ++ 47 :: n) = s := by
  have hp := partsL_noslash n (nameB_noslash hn)
  have hf : fitB n = true := (fitB_iff n).2 (by rw [hp]; simp [hn])
  refine (dirL_slash (nameB_noslash hn) ?_).1
  rw [fitB_below h, hf, splitL_fit hf, hp]
  simp; omega
theorem joinL_split {s : List UInt8} (h : fitB s = true) : joinL (splitL s) = s := by
  rw [splitL_fit h]
  unfold joinL
  rw [if_pos ((fitB_iff s).1 h), joinS_parts]
theorem splitL_pos {s : List UInt8} (h : fitB s = true) : 1 ≤ (splitL s).length := by
  rw [splitL_fit h]; exact List.length_pos_iff.2 (partsL_ne s)
theorem dirL_def {s : List UInt8} (h : fitB s = true) : dirL s = joinL ((splitL s).take ((splitL s).length - 1)) := by
  unfold dirL
  split
  · have := splitL_pos h
    have e : (splitL s).length - 1 = 0 := by omega
    rw [e]; rfl
  · rfl
theorem splitL_names (s : List UInt8) : (splitL s).all nameB = true := by
  unfold splitL; split
  · exact (‹_ ∧ _›).2
  · rfl
end Go.Proofs.YtbmdoekfbkpaeaaGreatDoor

namespace Go.Proofs.YtbmdoekfbkpaeaaGreatDoor

/-- Bytes that may be lost: where they lie, and what they are. -/
abbrev Opn := Int × List UInt8
/-- A file: its name, what lasts, what may be lost. -/
abbrev LF := List UInt8 × List UInt8 × List Opn
/-- A disk: its files, whether its power is gone, how many acts are left. -/
abbrev LD := List LF × Bool × Int

def zerosL (n : Nat) : List UInt8 := List.replicate n 0
theorem zerosL_len (n : Nat) : (zerosL n).length = n := by simp [zerosL]
/-- Bytes laid on a text. -/
def layD (s : List UInt8) (k : Nat) (t : List UInt8) : List UInt8 := (s ++ zerosL (k - s.length)).take k ++ (t ++ s.drop (k + t.length))
def layO (s : List UInt8) (o : Opn) : List UInt8 := layD s o.1.toNat o.2
def seenL (s : List UInt8) (ops : List Opn) : List UInt8 := ops.foldl layO s

theorem layD_len (s : List UInt8) (k : Nat) (t : List UInt8) : (layD s k t).length = max s.length (k + t.length) := by
  simp [layD, zerosL]; omega
theorem layD_prog {s t : List UInt8} {k : Nat} (h : s.length < k + t.length) : (s ++ zerosL (k + t.length - s.length)).take k ++ (t ++ (s ++ zerosL (k + t.length - s.length)).drop (k + t.length)) = layD s k t := by
  unfold layD
  rw [List.drop_eq_nil_of_le (by simp [zerosL]; omega), List.drop_eq_nil_of_le (by omega)]
  congr 1
  rw [List.take_append, List.take_append]
  congr 1
  simp only [zerosL, List.take_replicate]
  congr 1; omega
theorem layD_in {s t : List UInt8} {k : Nat} (h : k ≤ s.length) : s.take k ++ (t ++ s.drop (k + t.length)) = layD s k t := by
  unfold layD
  rw [show k - s.length = 0 by omega]; simp [zerosL]
theorem layD_end {s t : List UInt8} {k : Nat} (h : s.length ≤ k + t.length) (h2 : k ≤ s.length) : s.take k ++ t = layD s k t := by
  rw [← layD_in h2, List.drop_eq_nil_of_le h, List.append_nil]
theorem layD_pad {s t : List UInt8} {k : Nat} (h : s.length < k) : (s ++ zerosL (k - s.length)).take k ++ t = layD s k t := by
  unfold layD
  rw [List.drop_eq_nil_of_le (by omega), List.append_nil]

def badO (o : Opn) : Bool := decide (o.1 < 0) || (decide (262144 < o.1) || (o.2.isEmpty || decide ((262144 : Int) - o.1 < o.2.length)))
def badF (f : LF) : Bool := !nameB f.1 || (decide (200 < f.2.2.length) || (decide (262144 < f.2.1.length) || f.2.2.any badO))
/-- Texts that go up. -/
def upN : List (List UInt8) → Bool
  | a :: b :: t => decide (a < b) && upN (b :: t)
  | _ => true
def headBad (n : Nat) (off : Bool) (fuse : Int) : Bool := decide (8 < n) || (decide (fuse < -1) || (decide (1048576 < fuse) || (off && fuse != -1)))
def fitD (d : LD) : Bool := !headBad d.1.length d.2.1 d.2.2 && (upN (d.1.map (·.1)) && !d.1.any badF)

theorem upN_append : ∀ (l : List (List UInt8)) (a b : List UInt8), upN (l ++ [a, b]) = (upN (l ++ [a]) && decide (a < b))
  | [], a, b => by simp [upN]
  | [c], a, b => by simp [upN]
  | c :: d :: t, a, b => by
    have := upN_append (d :: t) a b
    simp only [List.cons_append, upN] at this ⊢
    rw [this, Bool.and_assoc]
theorem upN_step {l : List (List UInt8)} {k : Nat} (h : k + 1 < l.length) : upN (l.take (k + 2)) = (upN (l.take (k + 1)) && decide (l[k] < l[k + 1])) := by
  rw [List.take_succ_eq_append_getElem h, List.take_succ_eq_append_getElem (show k < l.length by omega), List.append_assoc]
  exact upN_append _ _ _
theorem upN_take : ∀ (l : List (List UInt8)) (k : Nat), upN l = true → upN (l.take k) = true
  | [], k, _ => by simp [upN]
  | [a], 0, _ => rfl
  | [a], k + 1, _ => by simp [upN]
  | a :: b :: t, 0, _ => rfl
  | a :: b :: t, 1, _ => by simp [upN]
  | a :: b :: t, k + 2, h => by
    simp only [upN, Bool.and_eq_true] at h
    have := upN_take (b :: t) (k + 1) h.2
    simp only [List.take_succ_cons, upN, Bool.and_eq_true] at this ⊢
    exact ⟨h.1, this⟩
theorem upN_pairs : ∀ (l : List (List UInt8)), upN l = true → l.Pairwise (· < ·)
  | [], _ => List.Pairwise.nil
  | [a], _ => by simp
  | a :: b :: t, h => by
    simp only [upN, Bool.and_eq_true, decide_eq_true_eq] at h
    have ih := upN_pairs (b :: t) h.2
    refine List.Pairwise.cons ?_ ih
    intro c hc
    rcases List.mem_cons.1 hc with rfl | hc
    · exact h.1
    · exact List.lt_trans h.1 (List.rel_of_pairwise_cons ih hc)
theorem upN_of_pairs : ∀ (l : List (List UInt8)), l.Pairwise (· < ·) → upN l = true
  | [], _ => rfl
  | [a], _ => rfl
  | a :: b :: t, h => by
    simp only [upN, Bool.and_eq_true, decide_eq_true_eq]
    exact ⟨List.rel_of_pairwise_cons h (by simp), upN_of_pairs (b :: t) (List.Pairwise.of_cons h)⟩

section
variable {α : Type} (key : α → List UInt8)
/-- The row with f in the place of the one of its name. -/
def withK (l : List α) (f : α) : List α := l.filter (fun y => decide (key y < key f)) ++ f :: l.filter (fun y => decide (key f < key y))
def withoutK (l : List α) (n : List UInt8) : List α := l.filter (fun y => !(key y == n))
theorem withK_map {β : Type} {key' : β → List UInt8} {g : α → β} (hg : ∀ x, key x = key' (g x)) (l : List α) (f : α) : (withK key l f).map g = withK key' (l.map g) (g f) := by
  simp only [withK, List.map_append, List.map_cons, List.filter_map, Function.comp_def, hg]
theorem withoutK_map {β : Type} {key' : β → List UInt8} {g : α → β} (hg : ∀ x, key x = key' (g x)) (l : List α) (n : List UInt8) : (withoutK key l n).map g = withoutK key' (l.map g) n := by
  simp only [withoutK, List.filter_map, Function.comp_def, hg]
end

def findF (fs : List LF) (n : List UInt8) : Option LF := fs.find? (fun f => f.1 == n)
def withF (fs : List LF) (f : LF) : List LF := withK (·.1) fs f
def withoutF (fs : List LF) (n : List UInt8) : List LF := withoutK (·.1) fs n

def readD (d : LD) (n : List UInt8) : List UInt8 × Bool := match findF d.1 n with
  | some f => (seenL f.2.1 f.2.2, true)
  | none => ([], false)
/-- An act may go on, or the power is lost. -/
def powerD (d : LD) : LD × Int := if d.2.2 = 0 then ((d.1, true, -1), 13) else ((d.1, d.2.1, if 0 < d.2.2 then d.2.2 - 1 else d.2.2), 0)
/-- What an act comes to, if it is wrong, or else does something to the files. -/
def actD (d : LD) (wrong : Int) (fs : List LF) : LD × Int :=
  if d.2.1 = true then (d, 13) else if wrong ≠ 0 then (d, wrong) else if d.2.2 = 0 then ((d.1, true, -1), 13) else ((fs, d.2.1, if 0 < d.2.2 then d.2.2 - 1 else d.2.2), 0)
def fileOf (d : LD) (n : List UInt8) : LF := (findF d.1 n).getD (n, [], [])
def wrongW (d : LD) (n : List UInt8) (k : Int) (s : List UInt8) : Int :=
  if nameB n = false then 7 else if k < 0 ∨ 262144 < k ∨ 262144 - k < (s.length : Int) then 4
  else if ((findF d.1 n).isNone = true ∧ 8 ≤ d.1.length) ∨ (s ≠ [] ∧ 200 ≤ (fileOf d n).2.2.length) then 9 else 0
def putOps (f : LF) (k : Int) (s : List UInt8) : LF := if s = [] then f else (f.1, f.2.1, f.2.2 ++ [(k, s)])
def writeD (d : LD) (n : List UInt8) (k : Int) (s : List UInt8) : LD × Int := actD d (wrongW d n k s) (withF d.1 (putOps (fileOf d n) k s))
def wrongN (d : LD) (n : List UInt8) : Int := if (findF d.1 n).isNone = true then 5 else 0
def syncD (d : LD) (n : List UInt8) : LD × Int := actD d (wrongN d n) (withF d.1 (n, (readD d n).1, []))
def renameD (d : LD) (n m : List UInt8) : LD × Int := actD d (if nameB m = false then 7 else wrongN d n) (withF (withoutF d.1 n) (m, (fileOf d n).2))
def removeD (d : LD) (n : List UInt8) : LD × Int := actD d (wrongN d n) (withoutF d.1 n)

/-- What is seen behind a loss of power, of a file. -/
def layKeep (s : List UInt8) : List Opn → List Bool → List UInt8
  | [], _ => s
  | o :: os, ks => layKeep (if ks.headD false then layO s o else s) os ks.tail
def crashL : List LF → List Bool → List LF
  | [], _ => []
  | f :: fs, ks => (f.1, layKeep f.2.1 f.2.2 ks, []) :: crashL fs (ks.drop f.2.2.length)
def crashD (d : LD) (ks : List Bool) : LD := (crashL d.1 ks, false, -1)

theorem badO_iff (o : Opn) : badO o = false ↔ 0 ≤ o.1 ∧ o.1 ≤ 262144 ∧ o.2 ≠ [] ∧ (o.2.length : Int) ≤ 262144 - o.1 := by
  simp [badO]
theorem badF_iff (f : LF) : badF f = false ↔ nameB f.1 = true ∧ f.2.2.length ≤ 200 ∧ f.2.1.length ≤ 262144 ∧ ∀ o ∈ f.2.2, badO o = false := by
  simp [badF]
theorem seenL_step {s : List UInt8} {ops : List Opn} {k : Nat} (h : k < ops.length) : seenL s (ops.take (k + 1)) = layO (seenL s (ops.take k)) ops[k] := by
  unfold seenL; rw [List.take_succ_eq_append_getElem h, List.foldl_append]; rfl
theorem layO_len {s : List UInt8} {o : Opn} (hs : s.length ≤ 262144) (ho : badO o = false) : (layO s o).length ≤ 262144 := by
  obtain ⟨h1, h2, _, h3⟩ := (badO_iff o).1 ho
  unfold layO; rw [layD_len]; omega
theorem seenL_len : ∀ {ops : List Opn} {s : List UInt8}, s.length ≤ 262144 → (∀ o ∈ ops, badO o = false) → (seenL s ops).length ≤ 262144
  | [], s, hs, _ => hs
  | o :: ops, s, hs, h => seenL_len (ops := ops) (s := layO s o) (layO_len hs (h o (by simp))) (fun x hx => h x (by simp [hx]))
end Go.Proofs.YtbmdoekfbkpaeaaGreatDoor
