/- Plain mathematics of paths: names, parts, joins, orders over lists of bytes. No program in sight. Words that all walks share: rows of texts in memory, the library's variable MaxLen, small lemmas. Regions that draw their order, at the class of all later worlds: those that lie over the world at hand, which stays as it is. How two texts stand; looking by halves, in plain lists. -/
import Derived.Lib.Strings
import Derived.WalkKit
import Derived.WalkSpells
import Derived.WalkLawsBesides
import Derived.Lib.Hide
import Derived.Outline
import Derived.Laws.AppendOwn
import Derived.Below
import Derived.Deep.QuietTactic
import Derived.BigQuiet
import Derived.WalkSmall
import Derived.Deep.DeepMust
import Derived.Test.YtaompdnnkfmjhaaGreatDoorProg
import Derived.Deep.Cut
import Derived.Deep.RegionWith
import Derived.Sort.Walk0
namespace Go.Proofs.YtaompdnnkfmjhaaGreatDoor

/-- A text as a value. -/
abbrev S (l : List UInt8) : Value := .string ⟨l.toArray⟩

theorem ret_bool {a b : Bool} (h : a = b) : Ending.returned (.bool a) = .returned (.bool b) := by rw [h]
theorem ret_int {k : IntKind} {a b : Int} (h : a = b) : Ending.returned (.int k a) = .returned (.int k b) := by rw [h]
theorem ret_str {a b : List UInt8} (h : a = b) : Ending.returned (S a) = .returned (S b) := by rw [h]

def okByte (c : UInt8) : Bool := !(c == 0) && !(c == 47)
/-- P9.1: a name. -/
def nameB (l : List UInt8) : Bool := !(l.isEmpty || decide (31 < l.length) || l == [46] || l == [46, 46]) && l.all okByte

/-- What lies between the slashes. -/
def partsL : List UInt8 → List (List UInt8)
  | [] => [[]]
  | c :: t => if c = 47 then [] :: partsL t else
    match partsL t with
    | [] => [[c]]
    | p :: ps => (c :: p) :: ps

theorem partsL_ne (l : List UInt8) : partsL l ≠ [] := by
  cases l with
  | nil => simp [partsL]
  | cons c t => unfold partsL; split; · simp
                split <;> simp

theorem partsL_noslash : ∀ (l : List UInt8), (∀ c ∈ l, c ≠ 47) → partsL l = [l]
  | [], _ => rfl
  | c :: t, h => by
    have ih := partsL_noslash t (fun x hx => h x (List.mem_cons_of_mem _ hx))
    unfold partsL
    rw [if_neg (h c List.mem_cons_self), ih]

theorem partsL_slash : ∀ (a t : List UInt8), (∀ c ∈ a, c ≠ 47) → partsL (a ++ 47 :: t) = a :: partsL t
  | [], t, _ => by simp [partsL]
  | c :: a, t, h => by
    have ih := partsL_slash a t (fun x hx => h x (List.mem_cons_of_mem _ hx))
    show partsL (c :: (a ++ 47 :: t)) = _
    rw [partsL, if_neg (h c List.mem_cons_self), ih]

/-- The part between places f and k. -/
def cutL (l : List UInt8) (f k : Nat) : List UInt8 := (l.take k).drop f

theorem cutL_succ {l : List UInt8} {f k : Nat} (hf : f ≤ k) (hk : k < l.length) : cutL l f (k + 1) = cutL l f k ++ [l[k]] := by
  unfold cutL
  rw [List.take_succ_eq_append_getElem hk, List.drop_append_of_le_length (by simp; omega)]

theorem cutL_self (l : List UInt8) (f : Nat) : cutL l f f = [] := by
  unfold cutL; rw [List.drop_eq_nil_iff]; exact List.length_take_le _ _

theorem drop_cut {l : List UInt8} {f k : Nat} (hf : f ≤ k) (hk : k < l.length) : l.drop f = cutL l f k ++ l[k] :: l.drop (k + 1) := by
  unfold cutL
  rw [List.drop_take, ← List.drop_eq_getElem_cons hk, show List.drop k l = List.drop (k - f) (List.drop f l) by rw [List.drop_drop]; congr 1; omega, List.take_append_drop]

theorem cutL_full {l : List UInt8} {f k : Nat} (hk : l.length ≤ k) : cutL l f k = l.drop f := by
  unfold cutL; rw [List.take_of_length_le hk]

/-- A step of the look for parts: at a slash. -/
theorem parts_step_slash {l : List UInt8} {dn : List (List UInt8)} {f k : Nat} (hf : f ≤ k) (hk : k < l.length) (hs : l[k] = 47) (hn : ∀ c ∈ cutL l f k, c ≠ 47)
    (h : partsL l = dn ++ partsL (l.drop f)) : partsL l = (dn ++ [cutL l f k]) ++ partsL (l.drop (k + 1)) := by
  rw [h, drop_cut hf hk, hs, partsL_slash _ _ hn, List.append_assoc]; rfl
theorem parts_step_end {l : List UInt8} {dn : List (List UInt8)} {f k : Nat} (hk : l.length ≤ k) (hn : ∀ c ∈ cutL l f k, c ≠ 47)
    (h : partsL l = dn ++ partsL (l.drop f)) : partsL l = dn ++ [cutL l f k] := by
  rw [h]; rw [cutL_full hk] at hn ⊢; rw [partsL_noslash _ hn]
theorem noslash_step {l : List UInt8} {f k : Nat} (hf : f ≤ k) (hk : k < l.length) (hs : l[k] ≠ 47) (hn : ∀ c ∈ cutL l f k, c ≠ 47) : ∀ c ∈ cutL l f (k + 1), c ≠ 47 := by
  intro c hc
  rw [cutL_succ hf hk] at hc
  rcases List.mem_append.1 hc with h | h
  · exact hn c h
  · rw [List.mem_singleton.1 h]; exact hs

theorem partsL_len : ∀ (l : List UInt8), ∀ p ∈ partsL l, p.length ≤ l.length
  | [], p, h => by simp [partsL] at h; simp [h]
  | c :: t, p, h => by
    have ih := partsL_len t
    unfold partsL at h
    split at h
    · rcases List.mem_cons.1 h with h | h
      · simp [h]
      · have := ih p h; simp; omega
    · cases hp : partsL t with
      | nil => exact absurd hp (partsL_ne t)
      | cons q qs =>
        rw [hp] at h ih
        rcases List.mem_cons.1 h with h | h
        · have := ih q List.mem_cons_self; simp [h]; omega
        · have := ih p (List.mem_cons_of_mem _ h); simp; omega

theorem partsL_count : ∀ (l : List UInt8), (partsL l).length ≤ l.length + 1
  | [] => by simp [partsL]
  | c :: t => by
    have ih := partsL_count t
    unfold partsL
    split
    · simp; omega
    · cases hp : partsL t with
      | nil => exact absurd hp (partsL_ne t)
      | cons q qs => rw [hp] at ih; simp at ih ⊢; omega

/-- P9.1: a path's names; none: it is no path. -/
def splitL (l : List UInt8) : List (List UInt8) := if (partsL l).length ≤ 8 ∧ (partsL l).all nameB = true then partsL l else []
def fitB (l : List UInt8) : Bool := decide (0 < (splitL l).length)

/-- Names with slashes between them. -/
def joinS : List (List UInt8) → List UInt8
  | [] => []
  | [a] => a
  | a :: b :: t => a ++ 47 :: joinS (b :: t)

theorem joinS_snoc : ∀ (ns : List (List UInt8)) (x : List UInt8), joinS (ns ++ [x]) = if ns = [] then x else joinS ns ++ 47 :: x
  | [], x => rfl
  | [a], x => rfl
  | a :: b :: t, x => by
    have ih := joinS_snoc (b :: t) x
    rw [if_neg (by simp)] at ih ⊢
    show a ++ 47 :: joinS (b :: t ++ [x]) = (a ++ 47 :: joinS (b :: t)) ++ 47 :: x
    rw [ih]; simp

theorem joinS_take {ns : List (List UInt8)} {k : Nat} (h : k < ns.length) : joinS (ns.take (k + 1)) = if k = 0 then ns[k] else joinS (ns.take k) ++ 47 :: ns[k] := by
  rw [List.take_succ_eq_append_getElem h, joinS_snoc]
  by_cases hk : k = 0
  · subst hk; simp
  · rw [if_neg hk, if_neg]; intro e; have h2 : (ns.take k).length = k := by { rw [List.length_take]; omega }; rw [e] at h2; exact hk h2.symm

theorem nameB_len {l : List UInt8} (h : nameB l = true) : l.length ≤ 31 := by
  unfold nameB at h
  simp at h
  omega

theorem joinS_len : ∀ (ns : List (List UInt8)), ns.all nameB = true → (joinS ns).length ≤ 32 * ns.length
  | [], _ => by simp [joinS]
  | [a], h => by simp at h; have := nameB_len h; simp [joinS]; omega
  | a :: b :: t, h => by
    rw [List.all_cons, Bool.and_eq_true] at h
    have ih := joinS_len (b :: t) h.2
    have := nameB_len h.1
    simp [joinS] at ih ⊢; omega

/-- P9.1: names as a path; empty: they are none. -/
def joinL (ns : List (List UInt8)) : List UInt8 := if ns.length ≤ 8 ∧ ns.all nameB = true then joinS ns else []

/-- P9.2: the directory. -/
def dirL (l : List UInt8) : List UInt8 := if (splitL l).length < 2 then [] else joinL ((splitL l).take ((splitL l).length - 1))

theorem splitL_le (l : List UInt8) : (splitL l).length ≤ 8 := by unfold splitL; split; · exact (‹_ ∧ _›).1
                                                                 · simp
theorem splitL_len (l : List UInt8) : ∀ p ∈ splitL l, p.length ≤ 31 := by
  unfold splitL; split
  · rename_i h; intro p hp; exact nameB_len (List.all_eq_true.1 h.2 p hp)
  · intro p hp; cases hp

theorem allN_take_succ (ns : List (List UInt8)) (k : Nat) (h : k < ns.length) : (ns.take (k + 1)).all nameB = ((ns.take k).all nameB && nameB ns[k]) := by
  rw [List.take_succ_eq_append_getElem h, List.all_append]; simp
theorem allN_bad {l : List (List UInt8)} {k : Nat} (h : k < l.length) (hb : nameB l[k] = false) : l.all nameB = false := by
  rw [Bool.eq_false_iff]; intro ha; rw [List.all_eq_true] at ha; have := ha _ (List.getElem_mem h); rw [hb] at this; cases this

/-- P9.3: how two lists of names stand. -/
def cmpParts : List (List UInt8) → List (List UInt8) → Int
  | [], [] => 0
  | [], _ :: _ => -1
  | _ :: _, [] => 1
  | a :: x, b :: y => if a < b then -1 else if b < a then 1 else cmpParts x y

theorem cmpParts_step {xs ys : List (List UInt8)} {k : Nat} (h1 : k < xs.length) (h2 : k < ys.length) :
    cmpParts (xs.drop k) (ys.drop k) = if xs[k] < ys[k] then -1 else if ys[k] < xs[k] then 1 else cmpParts (xs.drop (k + 1)) (ys.drop (k + 1)) := by
  rw [List.drop_eq_getElem_cons h1, List.drop_eq_getElem_cons h2, cmpParts]

theorem cmpParts_long {xs ys : List (List UInt8)} {k : Nat} (h1 : k < xs.length) (h2 : ys.length ≤ k) : cmpParts (xs.drop k) (ys.drop k) = 1 := by
  rw [List.drop_eq_getElem_cons h1, List.drop_eq_nil_of_le h2, cmpParts]
theorem cmpParts_short {xs ys : List (List UInt8)} {k : Nat} (h1 : k < ys.length) (h2 : xs.length ≤ k) : cmpParts (xs.drop k) (ys.drop k) = -1 := by
  rw [List.drop_eq_getElem_cons h1, List.drop_eq_nil_of_le h2, cmpParts]
theorem cmpParts_even {xs ys : List (List UInt8)} {k : Nat} (h1 : xs.length ≤ k) (h2 : ys.length ≤ k) : cmpParts (xs.drop k) (ys.drop k) = 0 := by
  rw [List.drop_eq_nil_of_le h1, List.drop_eq_nil_of_le h2, cmpParts]
theorem lt_or_eq_or_gt (p q : List UInt8) : p < q ∨ p = q ∨ q < p := by
  by_cases h : p < q
  · exact .inl h
  · by_cases h' : q < p
    · exact .inr (.inr h')
    · exact .inr (.inl (List.le_antisymm (List.not_lt.1 h') (List.not_lt.1 h)))

def orderL (l m : List UInt8) : Int := cmpParts (partsL l) (partsL m)
end Go.Proofs.YtaompdnnkfmjhaaGreatDoor

namespace Go.Proofs.YtaompdnnkfmjhaaGreatDoor
open Go.RowKit

theorem infoStr : (Tryz.prog.info? 9).map (fun i => (i.zero, i.size, i.bytes)) = some (some (.string ⟨#[]⟩), 1, 16) := by kernel_rfl

/-- The library's variable MaxLen holds some number. -/
def Mx (w : World) : Prop := ∃ m, w.cell? ⟨1, 0, none⟩ = some (.int .i64 m)

theorem lt_of_cell {w : World} {b o : Nat} {v : Value} (h : w.cell? ⟨b, o, none⟩ = some v) : b < w.heap.size := by
  unfold World.cell? at h
  rcases Nat.lt_or_ge b w.heap.size with hb | hb
  · exact hb
  · rw [Array.getElem?_eq_none (by simpa using hb)] at h; simp at h

theorem cell_below {w w' : World} (hb : Below w.heap.size w w') {b o : Nat} {v : Value} (h : w.cell? ⟨b, o, none⟩ = some v) : w'.cell? ⟨b, o, none⟩ = some v :=
  (hb.cell (p := ⟨b, o, none⟩) (lt_of_cell h)).trans h

theorem Mx.below {w w' : World} (h : Mx w) (hb : Below w.heap.size w w') : Mx w' := by
  obtain ⟨m, hm⟩ := h
  exact ⟨m, cell_below hb hm⟩

/-- All old cells and marks read as before. -/
theorem bcell {W w1 : World} (hb : Below W.heap.size W w1) : (∀ b o, b < W.heap.size → w1.cell? ⟨b, o, none⟩ = W.cell? ⟨b, o, none⟩) ∧ (∀ b o, b < W.heap.size → w1.frozen? ⟨b, o, none⟩ = W.frozen? ⟨b, o, none⟩) :=
  ⟨fun b o h => hb.cell (p := ⟨b, o, none⟩) h, fun b o h => hb.frozen (p := ⟨b, o, none⟩) h⟩

theorem cell_old {w : World} {b f : Nat} {v : Value} (h : w.cell? ⟨b, f, none⟩ = some v) (o : Obj) : (w.alloc o).cell? ⟨b, f, none⟩ = some v := cell_below ((Below.refl _ _).alloc (Nat.le_refl _) _) h
theorem cell_new (w : World) (cs : Array Value) (e j : Nat) {v : Value} (h : cs[j]? = some v) : (w.alloc (.cells cs e)).cell? ⟨w.heap.size, j, none⟩ = some v := by
  rw [World.cell?_alloc_at _ _ _ _ rfl]; exact h
theorem cell_drew {w : World} {a : Addr} {v : Value} (h : w.cell? a = some v) : w.drew.cell? a = some v := h
theorem cell_drewN {w : World} {a : Addr} {v : Value} (h : w.cell? a = some v) (n : Nat) : (w.drewN n).cell? a = some v := h
theorem is_some {w : World} {a : Addr} {v : Value} (h : w.cell? a = some v) : (w.cell? a).isSome = true := by rw [h]; rfl

/-- The slice v reads as the texts xs. -/
def StrRow (w : World) (v : Value) (xs : List (List UInt8)) : Prop :=
  ∃ a c, v = .slice a xs.length c ∧ xs.length ≤ c ∧ c ≤ maxLen ∧ (xs = [] ∨ ∃ b o, a = some ⟨b, o, none⟩ ∧ ∀ j x, xs[j]? = some x → w.cell? ⟨b, o + j, none⟩ = some (S x))

theorem StrRow.below {w w' : World} {v : Value} {xs : List (List UInt8)} (h : StrRow w v xs) (hb : Below w.heap.size w w') : StrRow w' v xs := by
  obtain ⟨a, c, hv, hc, hm, h⟩ := h
  refine ⟨a, c, hv, hc, hm, ?_⟩
  rcases h with h | ⟨b, o, ha, h⟩
  · exact .inl h
  · exact .inr ⟨b, o, ha, fun j x hx => cell_below hb (h j x hx)⟩

theorem StrRow.take {w : World} {a : Option Addr} {c : Nat} {xs : List (List UInt8)} (h : StrRow w (.slice a xs.length c) xs) {n : Nat} (hn : n ≤ xs.length) : StrRow w (.slice a n c) (xs.take n) := by
  obtain ⟨a', c', hv, hc, hm, hx⟩ := h
  cases hv
  refine ⟨a, c, by rw [List.length_take, Nat.min_eq_left hn], by rw [List.length_take]; omega, hm, ?_⟩
  rcases hx with hx | ⟨b, o, ha, hx⟩
  · exact .inl (by rw [hx]; simp)
  · refine .inr ⟨b, o, ha, fun j x hj => hx j x ?_⟩
    rw [List.getElem?_take] at hj
    split at hj
    · exact hj
    · cases hj
theorem StrRow.nil (w : World) : StrRow w (.slice none 0 0) [] := ⟨none, 0, rfl, Nat.le_refl _, by unfold maxLen; omega, .inl rfl⟩

theorem StrRow.of_owns {w : World} {base e : Nat} {v : Value} {xs : List (List UInt8)} (h : w.ownsRow base e 1 v xs.length (xs.map S)) : StrRow w v xs := by
  obtain ⟨_, h⟩ := h
  rcases h with ⟨hv, hn⟩ | ⟨g, cap, cur, hv, _, hh, hc, hm, hs, ht⟩
  · have : xs = [] := List.length_eq_zero_iff.1 hn
    subst this; subst hv; exact StrRow.nil w
  · refine ⟨_, _, hv, hc, hm, .inr ⟨g, 0, rfl, fun j x hx => ?_⟩⟩
    have h1 : cur.toList[j]? = some (S x) := by
      have : (cur.toList.take (xs.length * 1))[j]? = some (S x) := by rw [ht]; simp [hx]
      rw [List.getElem?_take] at this
      split at this
      · exact this
      · cases this
    simp only [World.cell?, hh]
    simpa using h1

theorem row_lit (w : World) (e : Nat) (xs : List (List UInt8)) (h : xs.length ≤ 1100000) : StrRow (w.alloc (.cells (xs.map S).toArray e)) (.slice (some ⟨w.heap.size, 0, none⟩) xs.length xs.length) xs := by
  refine ⟨_, _, rfl, Nat.le_refl _, by unfold maxLen; omega, .inr ⟨_, _, rfl, fun j x hx => ?_⟩⟩
  rw [World.cell?_alloc_at _ _ _ _ rfl]
  simp [hx]

theorem below_drewN {w : World} (n : Nat) : Below w.heap.size w (w.drewN n) := ⟨rfl, rfl, rfl, Nat.le_refl _, fun _ _ => rfl⟩
theorem belowN {B : Nat} {a w : World} (h : Below B a w) (n : Nat) : Below B a (w.drewN n) := h.trans ⟨rfl, rfl, rfl, Nat.le_refl _, fun _ _ => rfl⟩
theorem below_chain {B : Nat} {a b c : World} (h : Below B a b) (k : Below b.heap.size b c) (hB : B ≤ b.heap.size) : Below B a c := h.trans (k.mono hB)

theorem S_extract (l : List UInt8) (f k : Nat) : Value.string (({ data := l.toArray } : ByteArray).extract f k) = S (cutL l f k) := by
  congr 1
  apply ByteArray.ext
  apply Array.ext'
  rw [Lib.extract_data]
  simp [cutL, List.drop_take]
theorem new_cell (w : World) (v : Value) (e : Nat) : ∀ (j : Nat) u, [v][j]? = some u → (w.alloc (.cells #[v] e)).cell? ((⟨w.heap.size, 0, none⟩ : Addr).add j) = some u := by
  intro j u hj
  match j, hj with
  | 0, hj => simp at hj; subst hj; simp [Addr.add]
/-- A world of a walk that began in w0: what lay in w0 lies as it lay; the library's variable holds some number. -/
structure Wd (w0 w : World) : Prop where
  below : Below w0.heap.size w0 w
  mx : Mx w
theorem Wd.start {w : World} (h : Mx w) : Wd w w := ⟨Below.refl _ _, h⟩
theorem Wd.next {w0 w w' : World} (h : Wd w0 w) (hb : Below w.heap.size w w') : Wd w0 w' := ⟨below_chain h.below hb h.below.size, h.mx.below hb⟩
theorem Wd.drew {w0 w : World} (h : Wd w0 w) (n : Nat) : Wd w0 (w.drewN n) := h.next (below_drewN n)
theorem noslash_append {l a b : List UInt8} (h : l = a ++ b) (c : UInt8) (hc : c ∈ l) : c ∈ a ∨ c ∈ b := by rw [h] at hc; exact List.mem_append.1 hc
end Go.Proofs.YtaompdnnkfmjhaaGreatDoor

namespace Go.Proofs.YtaompdnnkfmjhaaGreatDoor
open Go.RowKit

/-- A world that lies over w: what lies in w lies there still. -/
structure LaterOf (w : World) where
  world : World
  below : Below w.heap.size w world

def LaterOf.start (w : World) : LaterOf w := ⟨w, Below.refl _ _⟩
instance (w : World) : Inhabited (LaterOf w) := ⟨LaterOf.start w⟩
theorem LaterOf.cell {w : World} {b o : Nat} {v : Value} (h : w.cell? ⟨b, o, none⟩ = some v) (p : LaterOf w) : p.world.cell? ⟨b, o, none⟩ = some v := cell_below p.below h

theorem wp_region_later {P : Program} {id : Nat} {Q : Exit → Act → World → Prop} {a : Act} {w : World} {l : List Oper} (hm : P.follows .mixedOrders = true) (hB : Region.lexB .any l.toArray = true)
    (h : wpQuiet P l.toArray (fun w' => ∃ p : LaterOf w, w' = p.world) (fun a' => ∀ w', (∃ p : LaterOf w, w' = p.world) → Q .normal a' w') l a) : (Code.region id l.toArray true).wp P Q a w :=
  wp_region_quiet (C := fun w' => ∃ p : LaterOf w, w' = p.world) hm hB ⟨⟨{ w with drawn := w.drawn + 1 }, ⟨rfl, rfl, rfl, Nat.le_refl _, fun _ _ => rfl⟩⟩, rfl⟩ (by simpa using h)

/-- A callee's contract, met in a later world. -/
theorem LaterOf.call {P : Program} {f : FuncId} {args : Array Value} {w : World} {v : Value} (p : LaterOf w)
    (h : Calls P f args p.world fun e w' => e = .returned v ∧ Below p.world.heap.size p.world w') : Calls P f args p.world fun e w'' => e = .returned v ∧ ∃ p' : LaterOf w, w'' = p'.world :=
  h.mono fun _ w' ⟨he, hb⟩ => ⟨he, ⟨w', below_chain p.below hb p.below.size⟩, rfl⟩
theorem LaterOf.still {P : Program} {f : FuncId} {args : Array Value} {w : World} {v : Value} (p : LaterOf w)
    (h : Calls P f args p.world fun e w' => e = .returned v ∧ w' = p.world) : Calls P f args p.world fun e w'' => e = .returned v ∧ ∃ p' : LaterOf w, w'' = p'.world :=
  h.mono fun _ _ ⟨he, hb⟩ => ⟨he, p, hb⟩
end Go.Proofs.YtaompdnnkfmjhaaGreatDoor

namespace Go.Proofs.YtaompdnnkfmjhaaGreatDoor
open Go.RowKit

def cmpS (p n : List UInt8) : Int := if p < n then -1 else if n < p then 1 else 0
theorem cmpS_lt {p n : List UInt8} (h : p < n) : cmpS p n = -1 := by simp [cmpS, h]
theorem cmpS_eq (p : List UInt8) : cmpS p p = 0 := by simp [cmpS, List.lt_irrefl]
theorem cmpS_gt {p n : List UInt8} (h : n < p) : cmpS p n = 1 := by
  have : ¬ p < n := fun h2 => List.lt_irrefl _ (List.lt_trans h h2)
  simp [cmpS, h, this]

theorem less_true {p n : List UInt8} (h : p < n) : Op.bytesLess p n = true := by rw [bytesLess_eq]; simpa using h
theorem less_false {p n : List UInt8} (h : ¬ p < n) : Op.bytesLess p n = false := by rw [bytesLess_eq]; simpa using h
theorem not_lt_of {p n : List UInt8} (h : p < n) : ¬ n < p := fun h2 => List.lt_irrefl _ (List.lt_trans h h2)
theorem beq_of_lt {p n : List UInt8} (h : p < n) : (p == n) = false ∧ (n == p) = false := by
  constructor <;> (rw [beq_eq_false_iff_ne]; rintro rfl; exact List.lt_irrefl _ h)
/-- How two texts stand, in the walk's words. -/
theorem three_ways (p n : List UInt8) : (cmpS p n = -1 ∧ p < n ∧ Op.bytesLess p n = true ∧ Op.bytesLess n p = false ∧ (p == n) = false) ∨ (cmpS p n = 0 ∧ p = n ∧ Op.bytesLess p n = false ∧ Op.bytesLess n p = false ∧ (p == n) = true) ∨ (cmpS p n = 1 ∧ n < p ∧ Op.bytesLess p n = false ∧ Op.bytesLess n p = true ∧ (p == n) = false) := by
  rcases lt_or_eq_or_gt p n with h | h | h
  · exact .inl ⟨cmpS_lt h, h, less_true h, less_false (not_lt_of h), (beq_of_lt h).1⟩
  · subst h; exact .inr (.inl ⟨cmpS_eq _, rfl, less_false (List.lt_irrefl _), less_false (List.lt_irrefl _), by simp⟩)
  · exact .inr (.inr ⟨cmpS_gt h, h, less_false (not_lt_of h), less_true h, (beq_of_lt h).2⟩)

/-- In a rising row: how many stand ahead of n; whether n is one of them. -/
def posL (ks : List (List UInt8)) (n : List UInt8) : Nat := (ks.takeWhile (fun k => decide (k < n))).length
theorem posL_at {ks : List (List UInt8)} {n : List UInt8} {i : Nat} (hi : i ≤ ks.length) (h1 : ∀ y ∈ ks.take i, y < n) (h2 : ∀ h : i < ks.length, ¬ ks[i] < n) : posL ks n = i := by
  unfold posL
  have e : ks.takeWhile (fun k => decide (k < n)) = ks.take i ++ (ks.drop i).takeWhile (fun k => decide (k < n)) := by
    conv => lhs; rw [← List.take_append_drop i ks]
    rw [List.takeWhile_append_of_pos (by intro y hy; simpa using h1 y hy)]
  rw [e, List.length_append, List.length_take, Nat.min_eq_left hi]
  by_cases h : i < ks.length
  · rw [List.drop_eq_getElem_cons h, List.takeWhile_cons_of_neg (by simpa using h2 h)]; simp
  · rw [List.drop_eq_nil_of_le (by omega)]; simp
theorem posL_le (ks : List (List UInt8)) (n : List UInt8) : posL ks n ≤ ks.length := by
  unfold posL; exact (List.takeWhile_sublist _).length_le
def upS (ks : List (List UInt8)) : Prop := ks.Pairwise (· < ·)
theorem up_before {ks : List (List UInt8)} {n : List UInt8} {h : Nat} (hu : upS ks) (hh : h < ks.length) (hl : ks[h] < n) : ∀ y ∈ ks.take (h + 1), y < n := by
  intro y hy
  rw [List.take_succ_eq_append_getElem hh, List.mem_append] at hy
  rcases hy with hy | hy
  · obtain ⟨j, hj, rfl⟩ := List.mem_iff_getElem.1 hy
    rw [List.length_take] at hj
    rw [List.getElem_take]
    exact List.lt_trans (List.pairwise_iff_getElem.1 hu j h (by omega) hh (by omega)) hl
  · simp at hy; rw [hy]; exact hl
theorem up_behind {ks : List (List UInt8)} {n : List UInt8} {h : Nat} (hu : upS ks) (hh : h < ks.length) (hl : ¬ ks[h] < n) : ∀ y ∈ ks.drop h, ¬ y < n := by
  intro y hy hlt
  obtain ⟨j, hj, rfl⟩ := List.mem_iff_getElem.1 hy
  rw [List.length_drop] at hj
  rw [List.getElem_drop] at hlt
  rcases Nat.eq_zero_or_pos j with rfl | hp
  · exact hl (by simpa using hlt)
  · exact hl (List.lt_trans (List.pairwise_iff_getElem.1 hu h (h + j) hh (by omega) (by omega)) hlt)
theorem mem_at_pos {ks : List (List UInt8)} {n : List UInt8} (hu : upS ks) : n ∈ ks ↔ ks[posL ks n]? = some n := by
  constructor
  · intro h
    obtain ⟨j, hj, rfl⟩ := List.mem_iff_getElem.1 h
    have : posL ks ks[j] = j := by
      refine posL_at (by omega) ?_ (fun _ => List.lt_irrefl _)
      intro y hy
      obtain ⟨i, hi, rfl⟩ := List.mem_iff_getElem.1 hy
      rw [List.length_take] at hi
      rw [List.getElem_take]
      exact List.pairwise_iff_getElem.1 hu i j (by omega) hj (by omega)
    rw [this]; simp
  · intro h; exact List.mem_of_getElem? h
theorem mem_at {ks : List (List UInt8)} {n : List UInt8} (hu : upS ks) {i : Nat} (hp : posL ks n = i) (hi : i < ks.length) : decide (n ∈ ks) = (cmpS ks[i] n == 0) := by
  have hm := mem_at_pos (n := n) hu
  rw [hp] at hm
  rw [List.getElem?_eq_getElem hi, Option.some.injEq] at hm
  rcases three_ways ks[i] n with ⟨h, h1, _⟩ | ⟨h, h1, _⟩ | ⟨h, h1, _⟩
  · rw [h]; simp [hm]; rintro h2; rw [h2] at h1; exact List.lt_irrefl _ h1
  · rw [h]; simp [hm, h1]
  · rw [h]; simp [hm]; rintro h2; rw [h2] at h1; exact List.lt_irrefl _ h1
theorem mem_end {ks : List (List UInt8)} {n : List UInt8} (hu : upS ks) (hp : posL ks n = ks.length) : decide (n ∈ ks) = false := by
  have hm := mem_at_pos (n := n) hu
  rw [hp] at hm
  simp at hm
  simpa using hm
theorem half {i j : Nat} (h : i < j) : i ≤ (i + j) / 2 ∧ (i + j) / 2 < j := by omega
end Go.Proofs.YtaompdnnkfmjhaaGreatDoor
