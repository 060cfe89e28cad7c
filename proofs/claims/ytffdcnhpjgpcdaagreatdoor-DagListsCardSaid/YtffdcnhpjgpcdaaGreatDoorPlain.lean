/- Plain mathematics of paths: names, parts, joins, orders over lists of bytes. No program in sight. -/
import Derived.Lib.Strings
namespace Go.Proofs.YtffdcnhpjgpcdaaGreatDoor

/-- A text as a value. -/
abbrev S (l : List UInt8) : Value := .string ⟨l.toArray⟩

theorem ret_bool {a b : Bool} (h : a = b) : Ending.returned (.bool a) = .returned (.bool b) := by rw [h]
theorem ret_int {k : IntKind} {a b : Int} (h : a = b) : Ending.returned (.int k a) = .returned (.int k b) := by rw [h]
theorem ret_str {a b : List UInt8} (h : a = b) : Ending.returned (S a) = .returned (S b) := by rw [h]

def okByte (c : UInt8) : Bool := !(c == 0) && !(c == 47)
/-- P9.1: a name. -/
def nameB (l : List UInt8) : Bool := !(l.isEmpty || decide (31 < l.length) || l == [46] || l == [46, 46]) && l.all okByte

/-- What lies between the slashes. -/
def partsL : List UInt8 → List (List UInt8)
  | [] => [[]]
  | c :: t => if c = 47 then [] :: partsL t else
    match partsL t with
    | [] => [[c]]
    | p :: ps => (c :: p) :: ps

theorem partsL_ne (l : List UInt8) : partsL l ≠ [] := by
  cases l with
  | nil => simp [partsL]
  | cons c t => unfold partsL; split; · simp
                split <;> simp

theorem partsL_noslash : ∀ (l : List UInt8), (∀ c ∈ l, c ≠ 47) → partsL l = [l]
  | [], _ => rfl
  | c :: t, h => by
    have ih := partsL_noslash t (fun x hx => h x (List.mem_cons_of_mem _ hx))
    unfold partsL
    rw [if_neg (h c List.mem_cons_self), ih]

theorem partsL_slash : ∀ (a t : List UInt8), (∀ c ∈ a, c ≠ 47) → partsL (a ++ 47 :: t) = a :: partsL t
  | [], t, _ => by simp [partsL]
  | c :: a, t, h => by
    have ih := partsL_slash a t (fun x hx => h x (List.mem_cons_of_mem _ hx))
    show partsL (c :: (a ++ 47 :: t)) = _
    rw [partsL, if_neg (h c List.mem_cons_self), ih]

/-- The part between places f and k. -/
def cutL (l : List UInt8) (f k : Nat) : List UInt8 := (l.take k).drop f

theorem cutL_succ {l : List UInt8} {f k : Nat} (hf : f ≤ k) (hk : k < l.length) : cutL l f (k + 1) = cutL l f k ++ [l[k]] := by
  unfold cutL
  rw [List.take_succ_eq_append_getElem hk, List.drop_append_of_le_length (by simp; omega)]

theorem cutL_self (l : List UInt8) (f : Nat) : cutL l f f = [] := by
  unfold cutL; rw [List.drop_eq_nil_iff]; exact List.length_take_le _ _

theorem drop_cut {l : List UInt8} {f k : Nat} (hf : f ≤ k) (hk : k < l.length) : l.drop f = cutL l f k ++ l[k] :: l.drop (k + 1) := by
  unfold cutL
  rw [List.drop_take, ← List.drop_eq_getElem_cons hk, show List.drop k l = List.drop (k - f) (List.drop f l) by rw [List.drop_drop]; congr 1; omega, List.take_append_drop]

theorem cutL_full {l : List UInt8} {f k : Nat} (hk : l.length ≤ k) : cutL l f k = l.drop f := by
  unfold cutL; rw [List.take_of_length_le hk]

/-- A step of the look for parts: at a slash. -/
theorem parts_step_slash {l : List UInt8} {dn : List (List UInt8)} {f k : Nat} (hf : f ≤ k) (hk : k < l.length) (hs : l[k] = 47) (hn : ∀ c ∈ cutL l f k, c ≠ 47)
    (h : partsL l = dn ++ partsL (l.drop f)) : partsL l = (dn ++ [cutL l f k]) ++ partsL (l.drop (k + 1)) := by
  rw [h, drop_cut hf hk, hs, partsL_slash _ _ hn, List.append_assoc]; rfl
theorem parts_step_end {l : List UInt8} {dn : List (List UInt8)} {f k : Nat} (hk : l.length ≤ k) (hn : ∀ c ∈ cutL l f k, c ≠ 47)
    (h : partsL l = dn ++ partsL (l.drop f)) : partsL l = dn ++ [cutL l f k] := by
  rw [h]; rw [cutL_full hk] at hn ⊢; rw [partsL_noslash _ hn]
theorem noslash_step {l : List UInt8} {f k : Nat} (hf : f ≤ k) (hk : k < l.length) (hs : l[k] ≠ 47) (hn : ∀ c ∈ cutL l f k, c ≠ 47) : ∀ c ∈ cutL l f (k + 1), c ≠ 47 := by
  intro c hc
  rw [cutL_succ hf hk] at hc
  rcases List.mem_append.1 hc with h | h
  · exact hn c h
  · rw [List.mem_singleton.1 h]; exact hs

theorem partsL_len : ∀ (l : List UInt8), ∀ p ∈ partsL l, p.length ≤ l.length
  | [], p, h => by simp [partsL] at h; simp [h]
  | c :: t, p, h => by
    have ih := partsL_len t
    unfold partsL at h
    split at h
    · rcases List.mem_cons.1 h with h | h
      · simp [h]
      · have := ih p h; simp; omega
    · cases hp : partsL t with
      | nil => exact absurd hp (partsL_ne t)
      | cons q qs =>
        rw [hp] at h ih
        rcases List.mem_cons.1 h with h | h
        · have := ih q List.mem_cons_self; simp [h]; omega
        · have := ih p (List.mem_cons_of_mem _ h); simp; omega

theorem partsL_count : ∀ (l : List UInt8), (partsL l).length ≤ l.length + 1
  | [] => by simp [partsL]
  | c :: t => by
    have ih := partsL_count t
    unfold partsL
    split
    · simp; omega
    · cases hp : partsL t with
      | nil => exact absurd hp (partsL_ne t)
      | cons q qs => rw [hp] at ih; simp at ih ⊢; omega

/-- P9.1: a path's names; none: it is no path. -/
def splitL (l : List UInt8) : List (List UInt8) := if (partsL l).length ≤ 8 ∧ (partsL l).all nameB = true then partsL l else []
def fitB (l : List UInt8) : Bool := decide (0 < (splitL l).length)

/-- Names with slashes between them. -/
def joinS : List (List UInt8) → List UInt8
  | [] => []
  | [a] => a
  | a :: b :: t => a ++ 47 :: joinS (b :: t)

theorem joinS_snoc : ∀ (ns : List (List UInt8)) (x : List UInt8), joinS (ns ++ [x]) = if ns = [] then x else joinS ns ++ 47 :: x
  | [], x => rfl
  | [a], x => rfl
  | a :: b :: t, x => by
    have ih := joinS_snoc (b :: t) x
    rw [if_neg (by simp)] at ih ⊢
    show a ++ 47 :: joinS (b :: t ++ [x]) = (a ++ 47 :: joinS (b :: t)) ++ 47 :: x
    rw [ih]; simp

theorem joinS_take {ns : List (List UInt8)} {k : Nat} (h : k < ns.length) : joinS (ns.take (k + 1)) = if k = 0 then ns[k] else joinS (ns.take k) ++ 47 :: ns[k] := by
  rw [List.take_succ_eq_append_getElem h, joinS_snoc]
  by_cases hk : k = 0
  · subst hk; simp
  · rw [if_neg hk, if_neg]; intro e; have h2 : (ns.take k).length = k := by { rw [List.length_take]; omega }; rw [e] at h2; exact hk h2.symm

theorem nameB_len {l : List UInt8} (h : nameB l = true) : l.length ≤ 31 := by
  unfold nameB at h
  simp at h
  omega

theorem joinS_len : ∀ (ns : List (List UInt8)), ns.all nameB = true → (joinS ns).length ≤ 32 * ns.length
  | [], _ => by simp [joinS]
  | [a], h => by simp at h; have := nameB_len h; simp [joinS]; omega
  | a :: b :: t, h => by
    rw [List.all_cons, Bool.and_eq_true] at h
    have ih := joinS_len (b :: t) h.2
    have := nameB_len h.1
    simp [joinS] at ih ⊢; omega

/-- P9.1: names as a path; empty: they are none. -/
def joinL (ns : List (List UInt8)) : List UInt8 := if ns.length ≤ 8 ∧ ns.all nameB = true then joinS ns else []

/-- P9.2: the directory. -/
def dirL (l : List UInt8) : List UInt8 := if (splitL l).length < 2 then [] else joinL ((splitL l).take ((splitL l).length - 1))

theorem splitL_le (l : List UInt8) : (splitL l).length ≤ 8 := by unfold splitL; split; · exact (‹_ ∧ _›).1
                                                                 · simp
theorem splitL_len (l : List UInt8) : ∀ p ∈ splitL l, p.length ≤ 31 := by
  unfold splitL; split
  · rename_i h; intro p hp; exact nameB_len (List.all_eq_true.1 h.2 p hp)
  · intro p hp; cases hp

theorem allN_take_succ (ns : List (List UInt8)) (k : Nat) (h : k < ns.length) : (ns.take (k + 1)).all nameB = ((ns.take k).all nameB && nameB ns[k]) := by
  rw [List.take_succ_eq_append_getElem h, List.all_append]; simp
theorem allN_bad {l : List (List UInt8)} {k : Nat} (h : k < l.length) (hb : nameB l[k] = false) : l.all nameB = false := by
  rw [Bool.eq_false_iff]; intro ha; rw [List.all_eq_true] at ha; have := ha _ (List.getElem_mem h); rw [hb] at this; cases this

/-- P9.3: how two lists of names stand. -/
def cmpParts : List (List UInt8) → List (List UInt8) → Int
  | [], [] => 0
  | [], _ :: _ => -1
  | _ :: _, [] => 1
  | a :: x, b :: y => if a < b then -1 else if b < a then 1 else cmpParts x y

theorem cmpParts_step {xs ys : List (List UInt8)} {k : Nat} (h1 : k < xs.length) (h2 : k < ys.length) :
    cmpParts (xs.drop k) (ys.drop k) = if xs[k] < ys[k] then -1 else if ys[k] < xs[k] then 1 else cmpParts (xs.drop (k + 1)) (ys.drop (k + 1)) := by
  rw [List.drop_eq_getElem_cons h1, List.drop_eq_getElem_cons h2, cmpParts]

theorem cmpParts_long {xs ys : List (List UInt8)} {k : Nat} (h1 : k < xs.length) (h2 : ys.length ≤ k) : cmpParts (xs.drop k) (ys.drop k) = 1 := by
  rw [List.drop_eq_getElem_cons h1, List.drop_eq_nil_of_le h2, cmpParts]
theorem cmpParts_short {xs ys : List (List UInt8)} {k : Nat} (h1 : k < ys.length) (h2 : xs.length ≤ k) : cmpParts (xs.drop k) (ys.drop k) = -1 := by
  rw [List.drop_eq_getElem_cons h1, List.drop_eq_nil_of_le h2, cmpParts]
theorem cmpParts_even {xs ys : List (List UInt8)} {k : Nat} (h1 : xs.length ≤ k) (h2 : ys.length ≤ k) : cmpParts (xs.drop k) (ys.drop k) = 0 := by
  rw [List.drop_eq_nil_of_le h1, List.drop_eq_nil_of_le h2, cmpParts]
theorem lt_or_eq_or_gt (p q : List UInt8) : p < q ∨ p = q ∨ q < p := by
  by_cases h : p < q
  · exact .inl h
  · by_cases h' : q < p
    · exact .inr (.inr h')
    · exact .inr (.inl (List.le_antisymm (List.not_lt.1 h') (List.not_lt.1 h)))

def orderL (l m : List UInt8) : Int := cmpParts (partsL l) (partsL m)
end Go.Proofs.YtffdcnhpjgpcdaaGreatDoor
