/- Plain mathematics of paths: names, parts, joins, orders over lists of bytes. No program in sight. Plain laws of paths: the directory by the last slash, parts and joins. -/
import Derived.Lib.Strings
import Derived.Lib.LastIndexByte
namespace Go.Proofs.YtbmdoekfbkpaeaaGreatDoor

/-- A text as a value. -/
abbrev S (l : List UInt8) : Value := .string ⟨l.toArray⟩

theorem ret_bool {a b : Bool} (h : a = b) : Ending.returned (.bool a) = .returned (.bool b) := by rw [h]
theorem ret_int {k : IntKind} {a b : Int} (h : a = b) : Ending.returned (.int k a) = .returned (.int k b) := by rw [h]
theorem ret_str {a b : List UInt8} (h : a = b) : Ending.returned (S a) = .returned (S b) := by rw [h]

def okByte (c : UInt8) : Bool := !(c == 0) && !(c == 47)
/-- P9.1: a name. -/
def nameB (l : List UInt8) : Bool := !(l.isEmpty || decide (31 < l.length) || l == [46] || l == [46, 46]) && l.all okByte

/-- What lies between the slashes. -/
def partsL : List UInt8 → List (List UInt8)
  | [] => [[]]
  | c :: t => if c = 47 then [] :: partsL t else
    match partsL t with
    | [] => [[c]]
    | p :: ps => (c :: p) :: ps

theorem partsL_ne (l : List UInt8) : partsL l ≠ [] := by
  cases l with
  | nil => simp [partsL]
  | cons c t => unfold partsL; split; · simp
                split <;> simp

theorem partsL_noslash : ∀ (l : List UInt8), (∀ c ∈ l, c ≠ 47) → partsL l = [l]
  | [], _ => rfl
  | c :: t, h => by
    have ih := partsL_noslash t (fun x hx => h x (List.mem_cons_of_mem _ hx))
    unfold partsL
    rw [if_neg (h c List.mem_cons_self), ih]

theorem partsL_slash : ∀ (a t : List UInt8), (∀ c ∈ a, c ≠ 47) → partsL (a ++ 47 :: t) = a :: partsL t
  | [], t, _ => by simp [partsL]
  | c :: a, t, h => by
    have ih := partsL_slash a t (fun x hx => h x (List.mem_cons_of_mem _ hx))
    show partsL (c :: (a ++ 47 :: t)) = _
    rw [partsL, if_neg (h c List.mem_cons_self), ih]

/-- The part between places f and k. -/
def cutL (l : List UInt8) (f k : Nat) : List UInt8 := (l.take k).drop f

theorem cutL_succ {l : List UInt8} {f k : Nat} (hf : f ≤ k) (hk : k < l.length) : cutL l f (k + 1) = cutL l f k ++ [l[k]] := by
  unfold cutL
  rw [List.take_succ_eq_append_getElem hk, List.drop_append_of_le_length (by simp; omega)]

theorem cutL_self (l : List UInt8) (f : Nat) : cutL l f f = [] := by
  unfold cutL; rw [List.drop_eq_nil_iff]; exact List.length_take_le _ _

theorem drop_cut {l : List UInt8} {f k : Nat} (hf : f ≤ k) (hk : k < l.length) : l.drop f = cutL l f k ++ l[k] :: l.drop (k + 1) := by
  unfold cutL
  rw [List.drop_take, ← List.drop_eq_getElem_cons hk, show List.drop k l = List.drop (k - f) (List.drop f l) by rw [List.drop_drop]; congr 1; omega, List.take_append_drop]

theorem cutL_full {l : List UInt8} {f k : Nat} (hk : l.length ≤ k) : cutL l f k = l.drop f := by
  unfold cutL; rw [List.take_of_length_le hk]

/-- A step of the look for parts: at a slash. -/
theorem parts_step_slash {l : List UInt8} {dn : List (List UInt8)} {f k : Nat} (hf : f ≤ k) (hk : k < l.length) (hs : l[k] = 47) (hn : ∀ c ∈ cutL l f k, c ≠ 47)
    (h : partsL l = dn ++ partsL (l.drop f)) : partsL l = (dn ++ [cutL l f k]) ++ partsL (l.drop (k + 1)) := by
  rw [h, drop_cut hf hk, hs, partsL_slash _ _ hn, List.append_assoc]; rfl
theorem parts_step_end {l : List UInt8} {dn : List (List UInt8)} {f k : Nat} (hk : l.length ≤ k) (hn : ∀ c ∈ cutL l f k, c ≠ 47)
    (h : partsL l = dn ++ partsL (l.drop f)) : partsL l = dn ++ [cutL l f k] := by
  rw [h]; rw [cutL_full hk] at hn ⊢; rw [partsL_noslash _ hn]
theorem noslash_step {l : List UInt8} {f k : Nat} (hf : f ≤ k) (hk : k < l.length) (hs : l[k] ≠ 47) (hn : ∀ c ∈ cutL l f k, c ≠ 47) : ∀ c ∈ cutL l f (k + 1), c ≠ 47 := by
  intro c hc
  rw [cutL_succ hf hk] at hc
  rcases List.mem_append.1 hc with h | h
  · exact hn c h
  · rw [List.mem_singleton.1 h]; exact hs

theorem partsL_len : ∀ (l : List UInt8), ∀ p ∈ partsL l, p.length ≤ l.length
  | [], p, h => by simp [partsL] at h; simp [h]
  | c :: t, p, h => by
    have ih := partsL_len t
    unfold partsL at h
    split at h
    · rcases List.mem_cons.1 h with h | h
      · simp [h]
      · have := ih p h; simp; omega
    · cases hp : partsL t with
      | nil => exact absurd hp (partsL_ne t)
      | cons q qs =>
        rw [hp] at h ih
        rcases List.mem_cons.1 h with h | h
        · have := ih q List.mem_cons_self; simp [h]; omega
        · have := ih p (List.mem_cons_of_mem _ h); simp; omega

theorem partsL_count : ∀ (l : List UInt8), (partsL l).length ≤ l.length + 1
  | [] => by simp [partsL]
  | c :: t => by
    have ih := partsL_count t
    unfold partsL
    split
    · simp; omega
    · cases hp : partsL t with
      | nil => exact absurd hp (partsL_ne t)
      | cons q qs => rw [hp] at ih; simp at ih ⊢; omega

/-- P9.1: a path's names; none: it is no path. -/
def splitL (l : List UInt8) : List (List UInt8) := if (partsL l).length ≤ 8 ∧ (partsL l).all nameB = true then partsL l else []
def fitB (l : List UInt8) : Bool := decide (0 < (splitL l).length)

/-- Names with slashes between them. -/
def joinS : List (List UInt8) → List UInt8
  | [] => []
  | [a] => a
  | a :: b :: t => a ++ 47 :: joinS (b :: t)

theorem joinS_snoc : ∀ (ns : List (List UInt8)) (x : List UInt8), joinS (ns ++ [x]) = if ns = [] then x else joinS ns ++ 47 :: x
  | [], x => rfl
  | [a], x => rfl
  | a :: b :: t, x => by
    have ih := joinS_snoc (b :: t) x
    rw [if_neg (by simp)] at ih ⊢
    show a ++ 47 :: joinS (b :: t ++ [x]) = (a ++ 47 :: joinS (b :: t)) ++ 47 :: x
    rw [ih]; simp

theorem joinS_take {ns : List (List UInt8)} {k : Nat} (h : k < ns.length) : joinS (ns.take (k + 1)) = if k = 0 then ns[k] else joinS (ns.take k) ++ 47 :: ns[k] := by
  rw [List.take_succ_eq_append_getElem h, joinS_snoc]
  by_cases hk : k = 0
  · subst hk; simp
  · rw [if_neg hk, if_neg]; intro e; have h2 : (ns.take k).length = k := by { rw [List.length_take]; omega }; rw [e] at h2; exact hk h2.symm

theorem nameB_len {l : List UInt8} (h : nameB l = true) : l.length ≤ 31 := by
  unfold nameB at h
  simp at h
  omega

theorem joinS_len : ∀ (ns : List (List UInt8)), ns.all nameB = true → (joinS ns).length ≤ 32 * ns.length
  | [], _ => by simp [joinS]
  | [a], h => by simp at h; have := nameB_len h; simp [joinS]; omega
  | a :: b :: t, h => by
    rw [List.all_cons, Bool.and_eq_true] at h
    have ih := joinS_len (b :: t) h.2
    have := nameB_len h.1
    simp [joinS] at ih ⊢; omega

/-- P9.1: names as a path; empty: they are none. -/
def joinL (ns : List (List UInt8)) : List UInt8 := if ns.length ≤ 8 ∧ ns.all nameB = true then joinS ns else []

/-- P9.2: the directory. -/
def dirL (l : List UInt8) : List UInt8 := if (splitL l).length < 2 then [] else joinL ((splitL l).take ((splitL l).length - 1))

theorem splitL_le (l : List UInt8) : (splitL l).length ≤ 8 := by unfold splitL; split; · exact (‹_ ∧ _›).1
                                                                 · simp
theorem splitL_len (l : List UInt8) : ∀ p ∈ splitL l, p.length ≤ 31 := by
  unfold splitL; split
  · rename_i h; intro p hp; exact nameB_len (List.all_eq_true.1 h.2 p hp)
  · intro p hp; cases hp

theorem allN_take_succ (ns : List (List UInt8)) (k : Nat) (h : k < ns.length) : (ns.take (k + 1)).all nameB = ((ns.take k).all nameB && nameB ns[k]) := by
  rw [List.take_succ_eq_append_getElem h, List.all_append]; simp
theorem allN_bad {l : List (List UInt8)} {k : Nat} (h : k < l.length) (hb : nameB l[k] = false) : l.all nameB = false := by
  rw [Bool.eq_false_iff]; intro ha; rw [List.all_eq_true] at ha; have := ha _ (List.getElem_mem h); rw [hb] at this; cases this

/-- P9.3: how two lists of names stand. -/
def cmpParts : List (List UInt8) → List (List UInt8) → Int
  | [], [] => 0
  | [], _ :: _ => -1
  | _ :: _, [] => 1
  | a :: x, b :: y => if a < b then -1 else if b < a then 1 else cmpParts x y

theorem cmpParts_step {xs ys : List (List UInt8)} {k : Nat} (h1 : k < xs.length) (h2 : k < ys.length) :
    cmpParts (xs.drop k) (ys.drop k) = if xs[k] < ys[k] then -1 else if ys[k] < xs[k] then 1 else cmpParts (xs.drop (k + 1)) (ys.drop (k + 1)) := by
  rw [List.drop_eq_getElem_cons h1, List.drop_eq_getElem_cons h2, cmpParts]

theorem cmpParts_long {xs ys : List (List UInt8)} {k : Nat} (h1 : k < xs.length) (h2 : ys.length ≤ k) : cmpParts (xs.drop k) (ys.drop k) = 1 := by
  rw [List.drop_eq_getElem_cons h1, List.drop_eq_nil_of_le h2, cmpParts]
theorem cmpParts_short {xs ys : List (List UInt8)} {k : Nat} (h1 : k < ys.length) (h2 : xs.length ≤ k) : cmpParts (xs.drop k) (ys.drop k) = -1 := by
  rw [List.drop_eq_getElem_cons h1, List.drop_eq_nil_of_le h2, cmpParts]
theorem cmpParts_even {xs ys : List (List UInt8)} {k : Nat} (h1 : xs.length ≤ k) (h2 : ys.length ≤ k) : cmpParts (xs.drop k) (ys.drop k) = 0 := by
  rw [List.drop_eq_nil_of_le h1, List.drop_eq_nil_of_le h2, cmpParts]
theorem lt_or_eq_or_gt (p q : List UInt8) : p < q ∨ p = q ∨ q < p := by
  by_cases h : p < q
  · exact .inl h
  · by_cases h' : q < p
    · exact .inr (.inr h')
    · exact .inr (.inl (List.le_antisymm (List.not_lt.1 h') (List.not_lt.1 h)))

def orderL (l m : List UInt8) : Int := cmpParts (partsL l) (partsL m)
end Go.Proofs.YtbmdoekfbkpaeaaGreatDoor

namespace Go.Proofs.YtbmdoekfbkpaeaaGreatDoor

theorem partsL_snoc : ∀ (a t : List UInt8), (∀ c ∈ t, c ≠ 47) → partsL (a ++ 47 :: t) = partsL a ++ [t]
  | [], t, h => by
    show partsL (47 :: t) = [[]] ++ [t]
    rw [partsL, if_pos rfl, partsL_noslash t h]; rfl
  | c :: a, t, h => by
    have ih := partsL_snoc a t h
    show partsL (c :: (a ++ 47 :: t)) = _
    rw [partsL, partsL]
    by_cases hc : c = 47
    · rw [if_pos hc, if_pos hc, ih]; rfl
    · rw [if_neg hc, if_neg hc, ih]
      cases hp : partsL a with
      | nil => exact absurd hp (partsL_ne a)
      | cons p ps => rfl

theorem joinS_cons (c : UInt8) (p : List UInt8) (ps : List (List UInt8)) : joinS ((c :: p) :: ps) = c :: joinS (p :: ps) := by
  cases ps <;> rfl
theorem joinS_nil (ps : List (List UInt8)) (h : ps ≠ []) : joinS ([] :: ps) = 47 :: joinS ps := by
  cases ps with
  | nil => exact absurd rfl h
  | cons p ps => rfl

theorem joinS_parts : ∀ l : List UInt8, joinS (partsL l) = l
  | [] => rfl
  | c :: t => by
    have ih := joinS_parts t
    unfold partsL
    split
    · rename_i h; rw [joinS_nil _ (partsL_ne t), ih, h]
    · cases hp : partsL t with
      | nil => exact absurd hp (partsL_ne t)
      | cons p ps => rw [hp] at ih; show joinS ((c :: p) :: ps) = _; rw [joinS_cons, ih]

theorem fitB_iff (l : List UInt8) : fitB l = true ↔ (partsL l).length ≤ 8 ∧ (partsL l).all nameB = true := by
  unfold fitB splitL
  have := List.length_pos_iff.2 (partsL_ne l)
  split <;> simp_all
theorem splitL_fit {l : List UInt8} (h : fitB l = true) : splitL l = partsL l := by
  unfold splitL; rw [if_pos ((fitB_iff l).1 h)]
theorem splitL_unfit {l : List UInt8} (h : fitB l = false) : splitL l = [] := by
  unfold fitB at h; simpa using h

theorem dirL_unfit {l : List UInt8} (h : fitB l = false) : dirL l = [] := by
  unfold dirL; rw [splitL_unfit h]; rfl
theorem dirL_noslash {l : List UInt8} (h : ∀ c ∈ l, c ≠ 47) : dirL l = [] := by
  unfold dirL splitL
  rw [partsL_noslash l h]
  split <;> rfl
theorem nameB_nil : nameB [] = false := rfl
theorem dirL_slash {a t : List UInt8} (h : ∀ c ∈ t, c ≠ 47) (hf : fitB (a ++ 47 :: t) = true) : dirL (a ++ 47 :: t) = a ∧ a ≠ [] := by
  have hp := partsL_snoc a t h
  have hs := splitL_fit hf
  obtain ⟨h1, h2⟩ := (fitB_iff _).1 hf
  have hl := List.length_pos_iff.2 (partsL_ne a)
  rw [hp] at h1 h2 hs
  rw [List.all_append, Bool.and_eq_true] at h2
  simp only [List.length_append, List.length_cons, List.length_nil] at h1
  constructor
  · unfold dirL
    rw [hs, if_neg (by simp; omega)]
    have : (partsL a ++ [t]).take ((partsL a ++ [t]).length - 1) = partsL a := by simp
    rw [this]
    unfold joinL
    rw [if_pos ⟨by omega, h2.1⟩, joinS_parts]
  · rintro rfl
    simp [partsL, nameB_nil] at h2

/-- The last slash. -/
theorem lastSlash (l : List UInt8) :
    (Lib.lastIndexByte ⟨l.toArray⟩ 47 = -1 ∧ ∀ c ∈ l, c ≠ 47) ∨
    (∃ i : Nat, ∃ _ : i < l.length, Lib.lastIndexByte ⟨l.toArray⟩ 47 = i ∧ l = l.take i ++ 47 :: l.drop (i + 1) ∧ ∀ c ∈ l.drop (i + 1), c ≠ 47) := by
  have hne : ∀ j (hj : j < l.length), ((((⟨l.toArray⟩ : ByteArray).data[j]!).toNat : Int) ≠ 47) → l[j] ≠ 47 := by
    intro j hj h e
    apply h
    rw [getElem!_pos (⟨l.toArray⟩ : ByteArray).data j (by simpa using hj)]
    simp [e]
  rcases Lib.lastIndexByte_spec ⟨l.toArray⟩ 47 with ⟨h1, h2⟩ | ⟨i, hi, h1, h2, h3⟩
  · refine .inl ⟨h1, fun c hc => ?_⟩
    obtain ⟨j, hj, rfl⟩ := List.mem_iff_getElem.1 hc
    exact hne j hj (h2 j hj)
  · have hi' : i < l.length := hi
    refine .inr ⟨i, hi', h1, ?_, ?_⟩
    · have : l[i] = 47 := by
        rw [getElem!_pos (⟨l.toArray⟩ : ByteArray).data i (by simpa using hi')] at h2
        apply UInt8.toNat_inj.1
        simp at h2 ⊢; omega
      rw [← this, ← List.drop_eq_getElem_cons hi', List.take_append_drop]
    · intro c hc
      obtain ⟨j, hj, rfl⟩ := List.mem_iff_getElem.1 hc
      rw [List.getElem_drop]
      simp at hj
      exact hne _ (by omega) (h3 _ (by omega) (by show _ < l.length; omega))

/-! How two paths stand (P9.5). -/
theorem cmpParts_self : ∀ xs : List (List UInt8), cmpParts xs xs = 0
  | [] => rfl
  | a :: x => by rw [cmpParts, if_neg (List.lt_irrefl a), if_neg (List.lt_irrefl a), cmpParts_self x]
theorem cmpParts_anti : ∀ xs ys : List (List UInt8), cmpParts ys xs = -cmpParts xs ys
  | [], [] => rfl
  | [], _ :: _ => rfl
  | _ :: _, [] => rfl
  | a :: x, b :: y => by
    have ih := cmpParts_anti x y
    rw [cmpParts, cmpParts]
    rcases lt_or_eq_or_gt a b with h | h | h
    · rw [if_neg (List.not_lt.2 (List.le_of_lt h)), if_pos h, if_pos h]; rfl
    · subst h; rw [if_neg (List.lt_irrefl a), if_neg (List.lt_irrefl a), if_neg (List.lt_irrefl a), if_neg (List.lt_irrefl a), ih]
    · rw [if_pos h, if_neg (List.not_lt.2 (List.le_of_lt h)), if_pos h]
theorem cmpParts_eq : ∀ xs ys : List (List UInt8), cmpParts xs ys = 0 → xs = ys
  | [], [], _ => rfl
  | [], _ :: _, h => by cases h
  | _ :: _, [], h => by cases h
  | a :: x, b :: y, h => by
    rw [cmpParts] at h
    rcases lt_or_eq_or_gt a b with h1 | h1 | h1
    · rw [if_pos h1] at h; cases h
    · subst h1; rw [if_neg (List.lt_irrefl a), if_neg (List.lt_irrefl a)] at h; rw [cmpParts_eq x y h]
    · rw [if_neg (List.not_lt.2 (List.le_of_lt h1)), if_pos h1] at h; cases h
theorem cmpParts_cases : ∀ xs ys : List (List UInt8), cmpParts xs ys = -1 ∨ cmpParts xs ys = 0 ∨ cmpParts xs ys = 1
  | [], [] => .inr (.inl rfl)
  | [], _ :: _ => .inl rfl
  | _ :: _, [] => .inr (.inr rfl)
  | a :: x, b :: y => by
    have ih := cmpParts_cases x y
    rw [cmpParts]
    split
    · exact .inl rfl
    · split
      · exact .inr (.inr rfl)
      · exact ih
theorem cmpParts_trans : ∀ xs ys zs : List (List UInt8), cmpParts xs ys = -1 → cmpParts ys zs = -1 → cmpParts xs zs = -1
  | [], [], _, h, _ => by cases h
  | [], _ :: _, [], _, h => by cases h
  | [], _ :: _, _ :: _, _, _ => rfl
  | _ :: _, [], _, h, _ => by cases h
  | _ :: _, _ :: _, [], _, h => by cases h
  | a :: x, b :: y, c :: z, h1, h2 => by
    have ih := cmpParts_trans x y z
    rw [cmpParts] at h1 h2 ⊢
    rcases lt_or_eq_or_gt a b with h | h | h
    · rcases lt_or_eq_or_gt b c with h' | h' | h'
      · rw [if_pos (List.lt_trans h h')]
      · subst h'; rw [if_pos h]
      · rw [if_neg (List.not_lt.2 (List.le_of_lt h')), if_pos h'] at h2; cases h2
    · subst h
      rw [if_neg (List.lt_irrefl a), if_neg (List.lt_irrefl a)] at h1
      rcases lt_or_eq_or_gt a c with h' | h' | h'
      · rw [if_pos h']
      · subst h'
        rw [if_neg (List.lt_irrefl a), if_neg (List.lt_irrefl a)] at h2 ⊢
        exact ih h1 h2
      · rw [if_neg (List.not_lt.2 (List.le_of_lt h')), if_pos h'] at h2; cases h2
    · rw [if_neg (List.not_lt.2 (List.le_of_lt h)), if_pos h] at h1; cases h1
theorem cmpParts_append : ∀ xs ys : List (List UInt8), ys ≠ [] → cmpParts xs (xs ++ ys) = -1
  | [], [], h => absurd rfl h
  | [], _ :: _, _ => rfl
  | a :: x, ys, h => by
    show cmpParts (a :: x) (a :: (x ++ ys)) = -1
    rw [cmpParts, if_neg (List.lt_irrefl a), if_neg (List.lt_irrefl a), cmpParts_append x ys h]
theorem cmpParts_less : ∀ xs zs : List (List UInt8), cmpParts xs zs = -1 → (∃ ys, ys ≠ [] ∧ zs = xs ++ ys) ∨ ∀ us, cmpParts (xs ++ us) zs = -1
  | [], [], h => by cases h
  | [], z :: zs, _ => .inl ⟨z :: zs, by simp, rfl⟩
  | _ :: _, [], h => by cases h
  | a :: x, b :: z, h => by
    rw [cmpParts] at h
    rcases lt_or_eq_or_gt a b with h' | h' | h'
    · right
      intro us
      show cmpParts (a :: (x ++ us)) (b :: z) = -1
      rw [cmpParts, if_pos h']
    · subst h'
      rw [if_neg (List.lt_irrefl a), if_neg (List.lt_irrefl a)] at h
      rcases cmpParts_less x z h with ⟨ys, h1, h2⟩ | h1
      · exact .inl ⟨ys, h1, by rw [h2]; rfl⟩
      · right
        intro us
        show cmpParts (a :: (x ++ us)) (a :: z) = -1
        rw [cmpParts, if_neg (List.lt_irrefl a), if_neg (List.lt_irrefl a), h1]
    · rw [if_neg (List.not_lt.2 (List.le_of_lt h')), if_pos h'] at h; cases h

theorem partsL_append : ∀ a c : List UInt8, partsL (a ++ 47 :: c) = partsL a ++ partsL c
  | [], c => by
    show partsL (47 :: c) = [[]] ++ partsL c
    rw [partsL, if_pos rfl]; rfl
  | x :: a, c => by
    have ih := partsL_append a c
    show partsL (x :: (a ++ 47 :: c)) = _
    rw [partsL, partsL]
    by_cases hx : x = 47
    · rw [if_pos hx, if_pos hx, ih]; rfl
    · rw [if_neg hx, if_neg hx, ih]
      cases hp : partsL a with
      | nil => exact absurd hp (partsL_ne a)
      | cons p ps => rfl
theorem joinS_append : ∀ xs ys : List (List UInt8), xs ≠ [] → ys ≠ [] → joinS (xs ++ ys) = joinS xs ++ 47 :: joinS ys
  | [], _, h, _ => absurd rfl h
  | [a], [], _, h => absurd rfl h
  | [a], y :: ys, _, _ => rfl
  | a :: b :: t, ys, _, h => by
    have ih := joinS_append (b :: t) ys (by simp) h
    show a ++ 47 :: joinS (b :: t ++ ys) = (a ++ 47 :: joinS (b :: t)) ++ 47 :: joinS ys
    rw [ih]; simp

theorem orderL_self (l : List UInt8) : orderL l l = 0 := cmpParts_self _
theorem orderL_anti (l m : List UInt8) : orderL m l = -orderL l m := cmpParts_anti _ _
theorem orderL_eq {l m : List UInt8} (h : orderL l m = 0) : l = m := by
  have := cmpParts_eq _ _ h
  rw [← joinS_parts l, ← joinS_parts m, this]
theorem orderL_cases (l m : List UInt8) : orderL l m = -1 ∨ orderL l m = 0 ∨ orderL l m = 1 := cmpParts_cases _ _
theorem orderL_trans {a b c : List UInt8} (h1 : orderL a b = -1) (h2 : orderL b c = -1) : orderL a c = -1 := cmpParts_trans _ _ _ h1 h2
theorem orderL_below (a c : List UInt8) : orderL a (a ++ 47 :: c) = -1 := by
  unfold orderL; rw [partsL_append]; exact cmpParts_append _ _ (partsL_ne c)
theorem orderL_between {a b : List UInt8} (c : List UInt8) (h : orderL a b = -1) : (∃ t, b = a ++ 47 :: t) ∨ orderL (a ++ 47 :: c) b = -1 := by
  rcases cmpParts_less _ _ h with ⟨ys, h1, h2⟩ | h1
  · left
    have := congrArg joinS h2
    rw [joinS_parts, joinS_append _ _ (partsL_ne a) h1, joinS_parts] at this
    exact ⟨_, this⟩
  · right
    unfold orderL; rw [partsL_append]; exact h1 _

/-! Depth (P9.1, P9.2). -/
theorem partsL_depth : ∀ l : List UInt8, (partsL l).length = 1 + l.count 47
  | [] => rfl
  | c :: t => by
    have ih := partsL_depth t
    unfold partsL
    split
    · rename_i h; subst h; simp; omega
    · rename_i h
      rw [List.count_cons_of_ne h]
      cases hp : partsL t with
      | nil => exact absurd hp (partsL_ne t)
      | cons p ps => rw [hp] at ih; exact ih
theorem nameB_noslash {n : List UInt8} (h : nameB n = true) : ∀ c ∈ n, c ≠ 47 := by
  unfold nameB at h
  rw [Bool.and_eq_true] at h
  intro c hc e
  have := List.all_eq_true.1 h.2 c hc
  rw [e] at this; cases this
theorem fitB_below {s n : List UInt8} (h : fitB s = true) : fitB (s ++ 47 :: n) = (decide ((partsL s).length < 8) && fitB n && decide ((splitL n).length ≤ 8 - (partsL s).length)) := by
  obtain ⟨h1, h2⟩ := (fitB_iff s).1 h
  have hp := List.length_pos_iff.2 (partsL_ne n)
  have hq := List.length_pos_iff.2 (partsL_ne s)
  rw [Bool.eq_iff_iff, fitB_iff, partsL_append, List.all_append, h2, List.length_append]
  simp only [Bool.true_and, Bool.and_eq_true, decide_eq_true_eq]
  constructor
  · rintro ⟨a, b⟩
    have hf : fitB n = true := (fitB_iff n).2 ⟨by omega, b⟩
    rw [splitL_fit hf]
    exact ⟨⟨by omega, hf⟩, by omega⟩
  · rintro ⟨⟨a, b⟩, c⟩
    rw [splitL_fit b] at c
    exact ⟨by omega, ((fitB_iff n).1 b).2⟩
theorem dirL_below {s n : List UInt8} (h : fitB s = true) (hn : nameB n = true) (hk : (partsL s).length < 8) : dirL (s ++ 47 :: n) = s := by
  have hp := partsL_noslash n (nameB_noslash hn)
  have hf : fitB n = true := (fitB_iff n).2 (by rw [hp]; simp [hn])
  refine (dirL_slash (nameB_noslash hn) ?_).1
  rw [fitB_below h, hf, splitL_fit hf, hp]
  simp; omega
theorem joinL_split {s : List UInt8} (h : fitB s = true) : joinL (splitL s) = s := by
  rw [splitL_fit h]
  unfold joinL
  rw [if_pos ((fitB_iff s).1 h), joinS_parts]
theorem splitL_pos {s : List UInt8} (h : fitB s = true) : 1 ≤ (splitL s).length := by
  rw [splitL_fit h]; exact List.length_pos_iff.2 (partsL_ne s)
theorem dirL_def {s : List UInt8} (h : fitB s = true) : dirL s = joinL ((splitL s).take ((splitL s).length - 1)) := by
  unfold dirL
  split
  · have := splitL_pos h
    have e : (splitL s).length - 1 = 0 := by omega
    rw [e]; rfl
  · rfl
theorem splitL_names (s : List UInt8) : (splitL s).all nameB = true := by
  unfold splitL; split
  · exact (‹_ ∧ _›).2
  · rfl
end Go.Proofs.YtbmdoekfbkpaeaaGreatDoor
