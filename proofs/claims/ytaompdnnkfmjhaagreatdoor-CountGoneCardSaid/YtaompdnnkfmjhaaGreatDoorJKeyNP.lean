/- A node's key: plain. How a load of a node ends: plain. Trees, in plain words: items in the order of their paths, each in a directory that is there. No program in sight. -/
import Derived.Test.YtaompdnnkfmjhaaGreatDoorJR11c
import Derived.Test.YtaompdnnkfmjhaaGreatDoorJKSet
import Derived.Test.YtaompdnnkfmjhaaGreatDoorJNodePlain
namespace Go.Proofs.YtaompdnnkfmjhaaGreatDoor
open Go.RowKit

theorem writeN_len {n : Nod} : (writeN n).length ≤ 100000 := by
  unfold writeN
  split
  · rename_i h
    have hf := fitN_iff.1 h
    obtain ⟨kd, d, ps, es⟩ := n
    rcases hf with ⟨h1, h2, h3, h4, h5⟩ | ⟨h1, h2, h3, h4⟩ | ⟨h1, h2, h3, h4⟩
    · simp only at h1 h3; subst h1
      show (_ :: d).length ≤ _
      rw [List.length_cons]; omega
    · simp only at h1 h4; subst h1
      show (_ :: (putV ps.length ++ ps.flatMap partW)).length ≤ _
      have h6 := putV_len (n := ps.length) (by have := h4.len; omega)
      have h7 := flat_bound (f := partW) (B := 42) (l := ps) (fun x hx => partW_len (h4.ok x hx))
      have := h4.len
      rw [List.length_cons, List.length_append]; omega
    · simp only at h1 h4; subst h1
      show (_ :: (putV es.length ++ es.flatMap entW)).length ≤ _
      have h6 := putV_len (n := es.length) (by have := h4.len; omega)
      have h7 := flat_bound (f := entW) (B := 74) (l := es) (fun x hx => entW_len (h4.ok x hx))
      have := h4.len
      rw [List.length_cons, List.length_append]; omega
  · simp

/-- a node's key. -/
noncomputable def keyN (n : Nod) : List UInt8 := if fitN n = true then shaF (writeN n) else []
end Go.Proofs.YtaompdnnkfmjhaaGreatDoor

namespace Go.Proofs.YtaompdnnkfmjhaaGreatDoor

/-- How a load ends: 0, or the number of what is wrong. -/
noncomputable def loadC (o : List Snp) (key : List UInt8) (kind : Int) : Int :=
  if (findR o key).isSome = false then 5 else if shaF (rootOf (findR o key)) ≠ key then 11 else if (readN (rootOf (findR o key))).2 ≠ 0 then 2 else if (readN (rootOf (findR o key))).1.kind ≠ kind then 10 else 0
/-- The numbers in the order in which they are tried. -/
def numsL : List Int := [5, 11, 2, 10, 8, 9, 4]

/-- A load that fails. -/
theorem loadC_mem {o : List Snp} {key : List UInt8} {kind : Int} (h : loadC o key kind ≠ 0) : loadC o key kind ∈ numsL := by
  unfold loadC at h ⊢
  split
  · decide
  · split
    · decide
    · split
      · decide
      · split
        · decide
        · rename_i h1 h2 h3 h4
          exfalso
          rw [if_neg h1, if_neg h2, if_neg h3, if_neg h4] at h
          exact h rfl

end Go.Proofs.YtaompdnnkfmjhaaGreatDoor

namespace Go.Proofs.YtaompdnnkfmjhaaGreatDoor

/-- Something in a tree: its path, whether it is a directory, whether it can be run, its bytes. -/
abbrev Itm := List UInt8 × Bool × Bool × List UInt8

/-- Ahead, in the order of paths. -/
def ltP (a b : List UInt8) : Bool := decide (orderL a b = -1)
theorem ltP_iff {a b : List UInt8} : ltP a b = true ↔ orderL a b = -1 := by simp [ltP]
theorem ltP_irrefl (a : List UInt8) : ltP a a = false := by simp [ltP, orderL_self]
theorem ltP_trans {a b c : List UInt8} (h1 : ltP a b = true) (h2 : ltP b c = true) : ltP a c = true := ltP_iff.2 (orderL_trans (ltP_iff.1 h1) (ltP_iff.1 h2))
theorem ltP_asymm {a b : List UInt8} (h : ltP a b = true) : ltP b a = false := by
  cases h2 : ltP b a with
  | false => rfl
  | true => have := ltP_trans h h2; rw [ltP_irrefl] at this; cases this
theorem ltP_three (a b : List UInt8) : (orderL a b = -1 ∧ ltP a b = true ∧ ltP b a = false ∧ a ≠ b) ∨ (orderL a b = 0 ∧ ltP a b = false ∧ ltP b a = false ∧ a = b) ∨ (orderL a b = 1 ∧ ltP a b = false ∧ ltP b a = true ∧ a ≠ b) := by
  rcases orderL_cases a b with h | h | h
  · have h1 : ltP a b = true := ltP_iff.2 h
    refine .inl ⟨h, h1, ltP_asymm h1, ?_⟩
    rintro rfl; rw [ltP_irrefl] at h1; cases h1
  · have e := orderL_eq h
    subst e
    exact .inr (.inl ⟨h, ltP_irrefl _, ltP_irrefl _, rfl⟩)
  · have h2 : ltP b a = true := ltP_iff.2 (by rw [orderL_anti, h])
    refine .inr (.inr ⟨h, ltP_asymm h2, h2, ?_⟩)
    rintro rfl; rw [ltP_irrefl] at h2; cases h2

def sizeT (l : List Itm) : Nat := (l.map (fun x => x.2.2.2.length)).sum
def findT (l : List Itm) (p : List UInt8) : Option Itm := l.find? (fun x => x.1 == p)
/-- A directory is there for a path. -/
def underT (l : List Itm) (p : List UInt8) : Bool := dirL p == [] || (match findT l (dirL p) with | some y => y.2.1 | none => false)
def oddT (x : Itm) : Bool := x.2.1 && (!(x.2.2.2 == []) || x.2.2.1)
def upT (l : List (List UInt8)) : Prop := l.Pairwise (fun a b => ltP a b = true)
/-- An item that can be, in a tree. -/
def okT (l : List Itm) (x : Itm) : Bool := fitB x.1 && (!oddT x && (decide (x.2.2.2.length ≤ 32768) && underT l x.1))
structure FitT (l : List Itm) : Prop where
  len : l.length ≤ 60
  up : upT (l.map (·.1))
  ok : ∀ x ∈ l, okT l x = true
  size : sizeT l ≤ 65536

/-- Items with one, in the place of what is at its path. -/
def withT (l : List Itm) (x : Itm) : List Itm := l.filter (fun y => ltP y.1 x.1) ++ x :: l.filter (fun y => ltP x.1 y.1)
/-- Right below, or further. -/
def belowT (p d : List UInt8) : Bool := decide (d.length < p.length) && (p.take d.length == d && p[d.length]? == some 47)
def dropL (l : List Itm) (p : List UInt8) : List Itm := l.filter (fun y => !(y.1 == p) && !belowT y.1 p)
/-- How many bytes lie at a path. -/
def oldT (l : List Itm) (p : List UInt8) : Nat := match findT l p with | some y => y.2.2.2.length | none => 0
def wrongT (l : List Itm) (x : Itm) : Int :=
  if fitB x.1 = false then 7
  else if oddT x = true then 2
  else if dirL x.1 ≠ [] ∧ (findT l (dirL x.1)).isNone = true then 5
  else if (dirL x.1 ≠ [] ∧ ∃ y, findT l (dirL x.1) = some y ∧ y.2.1 = false) ∨ (∃ y, findT l x.1 = some y ∧ y.2.1 ≠ x.2.1) then 10
  else if 32768 < x.2.2.2.length ∨ 65536 < (sizeT l : Int) - oldT l x.1 + x.2.2.2.length then 4
  else if (findT l x.1).isNone = true ∧ 60 ≤ l.length then 9
  else 0
def putT (l : List Itm) (x : Itm) : List Itm × Int := if wrongT l x = 0 then (withT l x, 0) else (l, wrongT l x)
def dropT (l : List Itm) (p : List UInt8) : List Itm × Int := if (findT l p).isNone = true then (l, 5) else (dropL l p, 0)

theorem findT_mem {l : List Itm} {p : List UInt8} {y : Itm} (h : findT l p = some y) : y ∈ l ∧ y.1 = p := ⟨List.mem_of_find?_eq_some h, by have := List.find?_some h; simpa using this⟩
theorem findT_none {l : List Itm} {p : List UInt8} (h : findT l p = none) : ∀ y ∈ l, y.1 ≠ p := by
  intro y hy e
  unfold findT at h
  have := List.find?_eq_none.1 h y hy
  simp [e] at this
/-- In a tree that rises there is one at a path at most. -/
theorem findT_of {l : List Itm} {y : Itm} (hu : upT (l.map (·.1))) (hy : y ∈ l) : findT l y.1 = some y := by
  cases h : findT l y.1 with
  | none => exact absurd rfl (findT_none h y hy)
  | some z =>
    obtain ⟨hz, he⟩ := findT_mem h
    unfold upT at hu
    rw [List.pairwise_map] at hu
    rw [List.pairwise_iff_getElem] at hu
    obtain ⟨i, hi, rfl⟩ := List.mem_iff_getElem.1 hy
    obtain ⟨j, hj, rfl⟩ := List.mem_iff_getElem.1 hz
    rcases Nat.lt_trichotomy i j with h1 | h1 | h1
    · have := hu i j hi hj h1; rw [he, ltP_irrefl] at this; cases this
    · subst h1; rfl
    · have := hu j i hj hi h1; rw [he, ltP_irrefl] at this; cases this
theorem withT_mem {l : List Itm} {x y : Itm} : y ∈ withT l x ↔ y = x ∨ (y ∈ l ∧ y.1 ≠ x.1) := by
  unfold withT
  simp only [List.mem_append, List.mem_filter, List.mem_cons]
  constructor
  · rintro (⟨h, h1⟩ | h | ⟨h, h1⟩)
    · exact .inr ⟨h, fun e => by rw [e, ltP_irrefl] at h1; cases h1⟩
    · exact .inl h
    · exact .inr ⟨h, fun e => by rw [e, ltP_irrefl] at h1; cases h1⟩
  · rintro (h | ⟨h, h1⟩)
    · exact .inr (.inl h)
    · rcases ltP_three y.1 x.1 with ⟨_, h2, _, _⟩ | ⟨_, _, _, h2⟩ | ⟨_, _, h2, _⟩
      · exact .inl ⟨h, h2⟩
      · exact absurd h2 h1
      · exact .inr (.inr ⟨h, h2⟩)
theorem withT_up {l : List Itm} {x : Itm} (hu : upT (l.map (·.1))) : upT ((withT l x).map (·.1)) := by
  unfold upT withT at *
  rw [List.pairwise_map] at hu ⊢
  rw [List.pairwise_append]
  refine ⟨List.Pairwise.sublist List.filter_sublist hu, ?_, ?_⟩
  · rw [List.pairwise_cons]
    refine ⟨fun y hy => ?_, List.Pairwise.sublist List.filter_sublist hu⟩
    exact (List.mem_filter.1 hy).2
  · intro a ha b hb
    have h1 : ltP a.1 x.1 = true := (List.mem_filter.1 ha).2
    rcases List.mem_cons.1 hb with rfl | hb
    · exact h1
    · exact ltP_trans h1 (List.mem_filter.1 hb).2
theorem withT_find {l : List Itm} {x : Itm} {p : List UInt8} (hu : upT (l.map (·.1))) : findT (withT l x) p = if p = x.1 then some x else findT l p := by
  have hu2 := withT_up (x := x) hu
  split
  · rename_i h
    subst h
    exact findT_of hu2 (withT_mem.2 (.inl rfl))
  · rename_i h
    cases hf : findT l p with
    | some y =>
      obtain ⟨hy, e⟩ := findT_mem hf
      have := findT_of hu2 (withT_mem.2 (.inr ⟨hy, fun e2 => h (e.symm.trans e2)⟩))
      rwa [e] at this
    | none =>
      cases hg : findT (withT l x) p with
      | none => rfl
      | some z =>
        exfalso
        obtain ⟨hz, e⟩ := findT_mem hg
        rcases withT_mem.1 hz with rfl | ⟨h1, _⟩
        · exact h e.symm
        · exact findT_none hf z h1 e
theorem belowT_iff {p d : List UInt8} : belowT p d = true ↔ ∃ t, p = d ++ 47 :: t := by
  unfold belowT
  simp only [Bool.and_eq_true, decide_eq_true_eq, beq_iff_eq]
  constructor
  · rintro ⟨h1, h2, h3⟩
    refine ⟨p.drop (d.length + 1), ?_⟩
    have h4 : p = p.take d.length ++ p.drop d.length := (List.take_append_drop _ _).symm
    rw [h2, List.drop_eq_getElem_cons h1] at h4
    rw [List.getElem?_eq_getElem h1] at h3
    rw [Option.some.inj h3] at h4
    exact h4
  · rintro ⟨t, rfl⟩
    simp
theorem belowT_trans {a b c : List UInt8} (h1 : belowT a b = true) (h2 : belowT b c = true) : belowT a c = true := by
  obtain ⟨t, rfl⟩ := belowT_iff.1 h1
  obtain ⟨s, rfl⟩ := belowT_iff.1 h2
  exact belowT_iff.2 ⟨s ++ 47 :: t, by simp⟩
/-- A path that has a directory is below it. -/
theorem dirL_of {p : List UInt8} (h : dirL p ≠ []) : belowT p (dirL p) = true := by
  have hf : fitB p = true := by
    cases hf : fitB p with
    | true => rfl
    | false => exact absurd (dirL_unfit hf) h
  have hs : ∃ c ∈ p, c = 47 := by
    apply Classical.byContradiction
    intro hn
    exact h (dirL_noslash (fun c hc e => hn ⟨c, hc, e⟩))
  -- the last slash
  have hl : ∀ l : List UInt8, (∃ c ∈ l, c = 47) → ∃ a t, l = a ++ 47 :: t ∧ ∀ c ∈ t, c ≠ 47 := by
    intro l
    induction l with
    | nil => rintro ⟨c, hc, _⟩; cases hc
    | cons x xs ih =>
      intro hx
      by_cases h2 : ∃ c ∈ xs, c = 47
      · obtain ⟨a, t, rfl, ht⟩ := ih h2
        exact ⟨x :: a, t, rfl, ht⟩
      · obtain ⟨c, hc, rfl⟩ := hx
        rcases List.mem_cons.1 hc with rfl | hc
        · exact ⟨[], xs, rfl, fun c hc e => h2 ⟨c, hc, e⟩⟩
        · exact absurd ⟨47, hc, rfl⟩ h2
  obtain ⟨a, t, rfl, ht⟩ := hl p hs
  rw [(dirL_slash ht hf).1]
  exact belowT_iff.2 ⟨t, rfl⟩
theorem withT_len {l : List Itm} {x : Itm} : (withT l x).length ≤ l.length + 1 := by
  unfold withT
  have h : ∀ l : List Itm, (l.filter (fun y => ltP y.1 x.1)).length + (l.filter (fun y => ltP x.1 y.1)).length ≤ l.length := by
    intro l
    induction l with
    | nil => simp
    | cons y ys ih =>
      rcases ltP_three y.1 x.1 with ⟨_, h1, h2, _⟩ | ⟨_, h1, h2, _⟩ | ⟨_, h1, h2, _⟩
      · simp [h1, h2]; omega
      · simp [h1, h2]; omega
      · simp [h1, h2]; omega
  have := h l
  simp only [List.length_append, List.length_cons]
  omega
theorem dropL_mem {l : List Itm} {p : List UInt8} {y : Itm} : y ∈ dropL l p ↔ y ∈ l ∧ y.1 ≠ p ∧ belowT y.1 p = false := by
  unfold dropL
  simp [List.mem_filter]
theorem dropL_up {l : List Itm} {p : List UInt8} (hu : upT (l.map (·.1))) : upT ((dropL l p).map (·.1)) := by
  unfold upT dropL at *
  rw [List.pairwise_map] at hu ⊢
  exact List.Pairwise.sublist List.filter_sublist hu
theorem sizeT_cons (x : Itm) (l : List Itm) : sizeT (x :: l) = x.2.2.2.length + sizeT l := by simp [sizeT]
theorem sizeT_app (l m : List Itm) : sizeT (l ++ m) = sizeT l + sizeT m := by simp [sizeT]
theorem sizeT_sub {l m : List Itm} (h : l.Sublist m) : sizeT l ≤ sizeT m := by
  induction h with
  | slnil => exact Nat.le_refl _
  | cons x _ ih => rw [sizeT_cons]; omega
  | cons_cons x _ ih => rw [sizeT_cons, sizeT_cons]; omega
/-- A tree from which something was taken away can be. -/
theorem dropL_fit {l : List Itm} {p : List UInt8} (h : FitT l) : FitT (dropL l p) := by
  have hsub : (dropL l p).Sublist l := List.filter_sublist
  refine ⟨Nat.le_trans hsub.length_le h.len, dropL_up h.up, fun x hx => ?_, Nat.le_trans (sizeT_sub hsub) h.size⟩
  obtain ⟨h1, h2, h3⟩ := dropL_mem.1 hx
  have h4 := h.ok x h1
  unfold okT at h4 ⊢
  simp only [Bool.and_eq_true, Bool.not_eq_true', decide_eq_true_eq] at h4 ⊢
  refine ⟨h4.1, h4.2.1, h4.2.2.1, ?_⟩
  have h5 := h4.2.2.2
  unfold underT at h5 ⊢
  rw [Bool.or_eq_true] at h5 ⊢
  rcases h5 with h5 | h5
  · exact .inl h5
  · by_cases hd : dirL x.1 = []
    · exact .inl (by simp [hd])
    · right
      cases hf : findT l (dirL x.1) with
      | none => rw [hf] at h5; cases h5
      | some y =>
        rw [hf] at h5
        obtain ⟨hy, e⟩ := findT_mem hf
        have hb := dirL_of hd
        have hyd : y ∈ dropL l p := by
          refine dropL_mem.2 ⟨hy, fun e2 => ?_, ?_⟩
          · rw [← e, e2, h3] at hb; cases hb
          · cases hb2 : belowT y.1 p with
            | false => rfl
            | true => rw [e] at hb2; rw [belowT_trans hb hb2] at h3; cases h3
        have := findT_of (dropL_up (p := p) h.up) hyd
        rw [e] at this
        rw [this]
        exact h5
theorem sizeT_with {l : List Itm} {x : Itm} (hu : upT (l.map (·.1))) : sizeT (withT l x) + oldT l x.1 = sizeT l + x.2.2.2.length := by
  have key : ∀ l : List Itm, l.Pairwise (fun a b => ltP a.1 b.1 = true) → sizeT (l.filter (fun y => ltP y.1 x.1)) + sizeT (l.filter (fun y => ltP x.1 y.1)) + (match findT l x.1 with | some y => y.2.2.2.length | none => 0) = sizeT l := by
    intro l
    induction l with
    | nil => intro _; rfl
    | cons y ys ih =>
      intro hp
      rw [List.pairwise_cons] at hp
      have ih := ih hp.2
      rcases ltP_three y.1 x.1 with ⟨_, h1, h2, h3⟩ | ⟨_, h1, h2, h3⟩ | ⟨_, h1, h2, h3⟩
      · have hf : findT (y :: ys) x.1 = findT ys x.1 := by unfold findT; rw [List.find?_cons_of_neg (by simpa using h3)]
        rw [hf, List.filter_cons_of_pos (p := fun z : Itm => ltP z.1 x.1) h1, List.filter_cons_of_neg (p := fun z : Itm => ltP x.1 z.1) (show ¬ (ltP x.1 y.1 = true) by rw [h2]; simp), sizeT_cons, sizeT_cons]
        omega
      · have hf : findT (y :: ys) x.1 = some y := by unfold findT; rw [List.find?_cons_of_pos (by simpa using h3)]
        have hn : findT ys x.1 = none := by
          cases hg : findT ys x.1 with
          | none => rfl
          | some z =>
            obtain ⟨hz, e⟩ := findT_mem hg
            have := hp.1 z hz
            rw [e, h1] at this; cases this
        rw [hn] at ih
        rw [hf, List.filter_cons_of_neg (p := fun z : Itm => ltP z.1 x.1) (show ¬ (ltP y.1 x.1 = true) by rw [h1]; simp), List.filter_cons_of_neg (p := fun z : Itm => ltP x.1 z.1) (show ¬ (ltP x.1 y.1 = true) by rw [h2]; simp), sizeT_cons]
        simp only at ih ⊢
        omega
      · have hf : findT (y :: ys) x.1 = findT ys x.1 := by unfold findT; rw [List.find?_cons_of_neg (by simpa using h3)]
        rw [hf, List.filter_cons_of_neg (p := fun z : Itm => ltP z.1 x.1) (show ¬ (ltP y.1 x.1 = true) by rw [h1]; simp), List.filter_cons_of_pos (p := fun z : Itm => ltP x.1 z.1) h2, sizeT_cons, sizeT_cons]
        omega
  have h := key l (by unfold upT at hu; rwa [List.pairwise_map] at hu)
  unfold withT oldT
  rw [sizeT_app, sizeT_cons]
  omega
/-- How many items there are with one more. -/
theorem withT_count {l : List Itm} {x : Itm} (hu : upT (l.map (·.1))) (h : (findT l x.1).isNone = false) : (withT l x).length ≤ l.length := by
  have key : ∀ l : List Itm, l.Pairwise (fun a b => ltP a.1 b.1 = true) → (l.filter (fun y => ltP y.1 x.1)).length + (l.filter (fun y => ltP x.1 y.1)).length + (match findT l x.1 with | some _ => 1 | none => 0) = l.length := by
    intro l
    induction l with
    | nil => intro _; rfl
    | cons y ys ih =>
      intro hp
      rw [List.pairwise_cons] at hp
      have ih := ih hp.2
      rcases ltP_three y.1 x.1 with ⟨_, h1, h2, h3⟩ | ⟨_, h1, h2, h3⟩ | ⟨_, h1, h2, h3⟩
      · have hf : findT (y :: ys) x.1 = findT ys x.1 := by unfold findT; rw [List.find?_cons_of_neg (by simpa using h3)]
        rw [hf, List.filter_cons_of_pos (p := fun z : Itm => ltP z.1 x.1) h1, List.filter_cons_of_neg (p := fun z : Itm => ltP x.1 z.1) (show ¬ (ltP x.1 y.1 = true) by rw [h2]; simp), List.length_cons, List.length_cons]
        omega
      · have hf : findT (y :: ys) x.1 = some y := by unfold findT; rw [List.find?_cons_of_pos (by simpa using h3)]
        have hn : findT ys x.1 = none := by
          cases hg : findT ys x.1 with
          | none => rfl
          | some z =>
            obtain ⟨hz, e⟩ := findT_mem hg
            have := hp.1 z hz
            rw [e, h1] at this; cases this
        rw [hn] at ih
        rw [hf, List.filter_cons_of_neg (p := fun z : Itm => ltP z.1 x.1) (show ¬ (ltP y.1 x.1 = true) by rw [h1]; simp), List.filter_cons_of_neg (p := fun z : Itm => ltP x.1 z.1) (show ¬ (ltP x.1 y.1 = true) by rw [h2]; simp), List.length_cons]
        simp only at ih ⊢
        omega
      · have hf : findT (y :: ys) x.1 = findT ys x.1 := by unfold findT; rw [List.find?_cons_of_neg (by simpa using h3)]
        rw [hf, List.filter_cons_of_neg (p := fun z : Itm => ltP z.1 x.1) (show ¬ (ltP y.1 x.1 = true) by rw [h1]; simp), List.filter_cons_of_pos (p := fun z : Itm => ltP x.1 z.1) h2, List.length_cons, List.length_cons]
        omega
  have h2 := key l (by unfold upT at hu; rwa [List.pairwise_map] at hu)
  cases hf : findT l x.1 with
  | none => rw [hf] at h; cases h
  | some y =>
    rw [hf] at h2
    unfold withT
    simp only [List.length_append, List.length_cons] at h2 ⊢
    omega
/-- A tree into which something was put can be. -/
theorem putT_fit {l : List Itm} {x : Itm} (h : FitT l) : FitT (putT l x).1 := by
  unfold putT
  split
  · rename_i hw
    unfold wrongT at hw
    split at hw
    · cases hw
    rename_i g1
    split at hw
    · cases hw
    rename_i g2
    split at hw
    · cases hw
    rename_i g3
    split at hw
    · cases hw
    rename_i g4
    split at hw
    · cases hw
    rename_i g5
    split at hw
    · cases hw
    rename_i g6
    have hsz := sizeT_with (x := x) h.up
    have hsz2 : sizeT (withT l x) ≤ 65536 := by
      have := fun h9 => g5 (.inr h9)
      omega
    have hdl : x.2.2.2.length ≤ 32768 := by
      have := fun h9 => g5 (.inl h9)
      omega
    have hlen : (withT l x).length ≤ 60 := by
      by_cases hn : (findT l x.1).isNone = true
      · have h1 := withT_len (l := l) (x := x)
        have h2 : ¬ 60 ≤ l.length := fun h9 => g6 ⟨hn, h9⟩
        omega
      · have h1 := withT_count (l := l) (x := x) h.up (by cases hq : (findT l x.1).isNone with | true => exact absurd hq hn | false => rfl)
        have h2 := h.len
        omega
    have hunder : underT (withT l x) x.1 = true := by
      unfold underT
      rw [Bool.or_eq_true]
      by_cases hd : dirL x.1 = []
      · exact .inl (by simp [hd])
      · right
        have hne : dirL x.1 ≠ x.1 := fun e => by
          have := dirL_of hd
          rw [e] at this
          obtain ⟨t, ht⟩ := belowT_iff.1 this
          have := congrArg List.length ht
          simp at this
        rw [withT_find h.up, if_neg hne]
        cases hf : findT l (dirL x.1) with
        | none => exact absurd ⟨hd, by rw [hf]; rfl⟩ g3
        | some y =>
          cases hy : y.2.1 with
          | true => exact hy
          | false => exact absurd (.inl ⟨hd, y, hf, hy⟩) g4
    refine ⟨hlen, withT_up h.up, fun z hz => ?_, hsz2⟩
    unfold okT
    simp only [Bool.and_eq_true, Bool.not_eq_true', decide_eq_true_eq]
    rcases withT_mem.1 hz with rfl | ⟨hz, hne⟩
    · exact ⟨by simpa using g1, by simpa using g2, hdl, hunder⟩
    · have h4 := h.ok z hz
      unfold okT at h4
      simp only [Bool.and_eq_true, Bool.not_eq_true', decide_eq_true_eq] at h4
      refine ⟨h4.1, h4.2.1, h4.2.2.1, ?_⟩
      have h5 := h4.2.2.2
      unfold underT at h5 ⊢
      rw [Bool.or_eq_true] at h5 ⊢
      rcases h5 with h5 | h5
      · exact .inl h5
      · right
        rw [withT_find h.up]
        by_cases he : dirL z.1 = x.1
        · rw [if_pos he]
          -- the directory is what is put: it was a directory
          cases hf : findT l (dirL z.1) with
          | none => rw [hf] at h5; cases h5
          | some y =>
            rw [hf] at h5
            simp only at h5 ⊢
            cases hx : x.2.1 with
            | true => rfl
            | false => exact absurd (.inr ⟨y, by rw [← he]; exact hf, by rw [h5, hx]; simp⟩) g4
        · rw [if_neg he]; exact h5
  · exact h
end Go.Proofs.YtaompdnnkfmjhaaGreatDoor
