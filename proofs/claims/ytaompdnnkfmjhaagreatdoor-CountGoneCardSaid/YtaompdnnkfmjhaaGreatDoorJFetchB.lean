/- What a tree was built to is told as the tree: plain. A tree of which one object cannot be loaded is not told: plain. What is reached from a tree's key is all of its objects: plain. -/
import Derived.Test.YtaompdnnkfmjhaaGreatDoorJNodesL
import Derived.Test.YtaompdnnkfmjhaaGreatDoorJReachQ
namespace Go.Proofs.YtaompdnnkfmjhaaGreatDoor

/-- A tree's items below a directory, each behind the one that it is in. -/
def dfsD (items : List Itm) : Nat → List UInt8 → List Itm
  | 0, _ => []
  | n + 1, d => (inD items d).flatMap (fun x => x :: if x.2.1 = true then dfsD items n x.1 else [])
theorem dfsD_succ (items : List Itm) (n : Nat) (d : List UInt8) : dfsD items (n + 1) d = (inD items d).flatMap (fun x => x :: if x.2.1 = true then dfsD items n x.1 else []) := rfl
/-- All of some nodes can be loaded. -/
def Loads (o : List Snp) (l : List Nod) : Prop := ∀ n ∈ l, findR o (keyN n) = some (writeN n)
section
variable {pc : List UInt8 → List (List UInt8)} {items : List Itm} {o : List Snp}
theorem partsC_of : ∀ (ps : List (List UInt8)) (acc : List UInt8) (s : Nat), (∀ t ∈ ps, 1 ≤ t.length ∧ t.length ≤ 4096) → Loads o (ps.map pieceN) → s + ps.flatten.length ≤ 65536 → partsC o (ps.map partN) acc s = (acc ++ ps.flatten, s + ps.flatten.length, 0)
  | [], acc, s, _, _, _ => by simp [partsC]
  | t :: ps, acc, s, he, hl, hs => by
    obtain ⟨h1, h2⟩ := he t List.mem_cons_self
    obtain ⟨h3, h4⟩ := loadC_of (o := o) (fit_piece h1 h2) (hl _ (List.mem_map.2 ⟨t, List.mem_cons_self, rfl⟩))
    rw [List.map_cons]
    unfold partsC
    have hp : (partN t).1 = keyN (pieceN t) := rfl
    have hk : (pieceN t).kind = 1 := rfl
    rw [hk] at h3
    rw [List.flatten_cons, List.length_append] at hs
    rw [hp, if_neg (by rw [h3]; simp), h4, if_neg]
    · rw [partsC_of ps _ _ (fun u hu => he u (List.mem_cons_of_mem _ hu)) (fun n hn => hl n (by rw [List.map_cons]; exact List.mem_cons_of_mem _ hn)) (by show s + t.length + _ ≤ _; omega), List.flatten_cons, List.append_assoc, List.length_append]
      show (_, s + t.length + _, _) = _
      rw [Nat.add_assoc]
    · show ¬ ((t.length : Int) ≠ (t.length : Int) ∨ 65536 < s + t.length)
      omega
theorem fileC_of (hr : Ready pc items) {x : Itm} (hx : x ∈ items) (hl : Loads o (nodesF (pc x.2.2.2))) {s : Nat} (hs : s + x.2.2.2.length ≤ 65536) : fileC o (keyN (fileN (pc x.2.2.2))) s = (x.2.2.2, s + x.2.2.2.length, 0) := by
  obtain ⟨h3, h4⟩ := loadC_of (o := o) (hr.file hx) (hl _ (List.mem_append_right _ (List.mem_singleton.2 rfl)))
  have hk : (fileN (pc x.2.2.2)).kind = 2 := rfl
  rw [hk] at h3
  have hfl := hr.flat x hx
  unfold fileC
  rw [if_neg (by rw [h3]; simp), h4]
  have := partsC_of (o := o) (pc x.2.2.2) [] s (hr.each x hx) (fun n hn => hl n (List.mem_append_left _ hn)) (by rw [hfl]; exact hs)
  rw [hfl, List.nil_append] at this
  exact this
theorem at_dir {x : Itm} (hf : fitB x.1 = true) : atD (dirL x.1) ++ lastN x.1 = x.1 := by
  have h1 := at_parts (d := dirL x.1) (nm := lastN x.1) (by
    rcases parts_of_dir hf with ⟨h, _⟩ | ⟨_, h, _⟩
    · exact .inl h
    · exact .inr h) (last_name hf)
  rw [← pd_step hf] at h1
  exact parts_inj h1
theorem count_of {x : Itm} (hf : fitB x.1 = true) : x.1.count 47 < 8 := by
  have h1 := (fit_parts hf).1
  have h2 := partsL_depth x.1
  omega
theorem dfs_len (hr : Ready pc items) : ∀ (n : Nat) (d : List UInt8), (dfsD items n d).length = (relD items n d).length
  | 0, _ => rfl
  | n + 1, d => by
    rw [dfsD_succ]
    unfold relD
    have key : ∀ (l : List Itm), (l.flatMap (fun x => x :: if x.2.1 = true then dfsD items n x.1 else [])).length = (l.flatMap (fun x => ([lastN x.1], x.2) :: if x.2.1 = true then (relD items n x.1).map (fun r => (lastN x.1 :: r.1, r.2)) else [])).length := by
      intro l
      induction l with
      | nil => rfl
      | cons x l ih =>
        rw [List.flatMap_cons, List.flatMap_cons, List.length_append, List.length_append, ih]
        congr 1
        split
        · rw [List.length_cons, List.length_cons, List.length_map, dfs_len hr n x.1]
        · rfl
    exact key _
/-- One entry's step. -/
theorem entC1_of (hr : Ready pc items) {n : Nat} {d : List UInt8} {x : Itm} (hx : x ∈ inD items d) (IH : x.2.1 = true → ∀ (st : StC), st.1.length + (dfsD items n x.1).length ≤ 60 → st.2 + sizeT (dfsD items n x.1) ≤ 65536 →
      dirC o n (keyN (dirN pc items n x.1)) x.1 st = ((st.1 ++ dfsD items n x.1, st.2 + sizeT (dfsD items n x.1)), 0)) (hlx : Loads o (if x.2.1 = true then nodesD pc items n x.1 else nodesF (pc x.2.2.2))) (st : StC)
    (h1 : st.1.length + 1 + (if x.2.1 = true then dfsD items n x.1 else []).length ≤ 60) (h2 : st.2 + (x.2.2.2.length + sizeT (if x.2.1 = true then dfsD items n x.1 else [])) ≤ 65536) :
    entC1 o (dirC o n) d (entK pc (fun p => keyN (dirN pc items n p)) x) st = ((st.1 ++ (x :: if x.2.1 = true then dfsD items n x.1 else []), st.2 + sizeT (x :: if x.2.1 = true then dfsD items n x.1 else [])), 0) := by
  obtain ⟨hx1, hx2⟩ := mem_inD.1 hx
  obtain ⟨hf, ho, hdl, -⟩ := hr.item hx1
  have hp : atD d ++ lastN x.1 = x.1 := by rw [← hx2]; exact at_dir hf
  unfold entC1
  have e1 : (entK pc (fun p => keyN (dirN pc items n p)) x).1 = lastN x.1 := rfl
  rw [e1, hp, if_neg (by have := count_of hf; omega), if_neg (by omega)]
  cases hd : x.2.1 with
  | true =>
    have e2 : (entK pc (fun p => keyN (dirN pc items n p)) x).2.1 = 3 := by simp [entK, hd]
    have e3 : (entK pc (fun p => keyN (dirN pc items n p)) x).2.2.2 = keyN (dirN pc items n x.1) := by simp [entK, hd]
    rw [hd, if_pos rfl] at h1 h2
    have hxe : (x.1, true, false, ([] : List UInt8)) = x := by
      obtain ⟨p, b, ex, s⟩ := x
      simp only at hd
      subst hd
      simp only [oddT, Bool.true_and, Bool.or_eq_false_iff, Bool.not_eq_false', beq_iff_eq] at ho
      rw [ho.1, ho.2]
    have hx0 : x.2.2.2.length = 0 := by rw [← hxe]; rfl
    rw [e2, if_pos rfl, e3, hxe, IH hd _ (by rw [List.length_append]; simp; omega) (by omega), if_pos rfl, sizeT_cons, hx0, List.append_assoc]
    simp
  | false =>
    have e2 : (entK pc (fun p => keyN (dirN pc items n p)) x).2.1 = 2 := by simp [entK, hd]
    have e3 : (entK pc (fun p => keyN (dirN pc items n p)) x).2.2.2 = keyN (fileN (pc x.2.2.2)) := by simp [entK, hd]
    have e4 : (entK pc (fun p => keyN (dirN pc items n p)) x).2.2.1 = x.2.2.1 := rfl
    rw [hd, if_neg (by simp)] at hlx
    rw [e2, if_neg (by decide), e3, e4, fileC_of hr hx1 hlx (by omega), if_neg (by simp)]
    have hxe : (x.1, false, x.2.2.1, x.2.2.2) = x := by rw [← hd]
    simp only [hxe]
    rw [sizeT_cons]
    simp [sizeT]
/-- The steps over a directory's entries. -/
theorem entsC_of (hr : Ready pc items) {n : Nat} {d : List UInt8} (IH : ∀ x ∈ inD items d, x.2.1 = true → ∀ (st : StC), st.1.length + (dfsD items n x.1).length ≤ 60 → st.2 + sizeT (dfsD items n x.1) ≤ 65536 →
      dirC o n (keyN (dirN pc items n x.1)) x.1 st = ((st.1 ++ dfsD items n x.1, st.2 + sizeT (dfsD items n x.1)), 0)) (hl : Loads o (nodesS pc items n (inD items d))) :
    ∀ (t : List Itm) (st : StC), (∀ x ∈ t, x ∈ inD items d) → st.1.length + (t.flatMap (fun x => x :: if x.2.1 = true then dfsD items n x.1 else [])).length ≤ 60 → st.2 + sizeT (t.flatMap (fun x => x :: if x.2.1 = true then dfsD items n x.1 else [])) ≤ 65536 →
      entsC o (dirC o n) d (t.map (entK pc (fun p => keyN (dirN pc items n p)))) st = ((st.1 ++ t.flatMap (fun x => x :: if x.2.1 = true then dfsD items n x.1 else []), st.2 + sizeT (t.flatMap (fun x => x :: if x.2.1 = true then dfsD items n x.1 else []))), 0)
  | [], st, _, _, _ => by simp [entsC, sizeT]
  | x :: t, st, ht, h1, h2 => by
    have hx := ht x List.mem_cons_self
    obtain ⟨hx1, hx2⟩ := mem_inD.1 hx
    obtain ⟨hf, ho, hdl, -⟩ := hr.item hx1
    have hp : atD d ++ lastN x.1 = x.1 := by rw [← hx2]; exact at_dir hf
    rw [List.flatMap_cons, List.length_append, List.length_cons] at h1
    rw [List.flatMap_cons, List.cons_append, sizeT_cons, sizeT_app] at h2
    have hlx : Loads o (if x.2.1 = true then nodesD pc items n x.1 else nodesF (pc x.2.2.2)) := fun m hm => hl m (List.mem_flatMap.2 ⟨x, hx, hm⟩)
    have hone := entC1_of (o := o) hr hx (IH x hx) hlx st (by omega) (by omega)
    rw [List.map_cons]
    unfold entsC
    rw [hone, if_neg (by simp)]
    have ih := entsC_of hr IH hl t (st.1 ++ (x :: if x.2.1 = true then dfsD items n x.1 else []), st.2 + sizeT (x :: if x.2.1 = true then dfsD items n x.1 else [])) (fun y hy => ht y (List.mem_cons_of_mem _ hy)) (by simp only [List.length_append, List.length_cons]; omega) (by simp only [sizeT_cons]; omega)
    simp only
    rw [ih, List.flatMap_cons, List.append_assoc, sizeT_app, Nat.add_assoc]
theorem dirC_of (hr : Ready pc items) : ∀ (n : Nat) (d : List UInt8), DirOf items d → n + deepD d = 9 → Loads o (nodesD pc items n d) → ∀ (st : StC), st.1.length + (dfsD items n d).length ≤ 60 → st.2 + sizeT (dfsD items n d) ≤ 65536 →
    dirC o n (keyN (dirN pc items n d)) d st = ((st.1 ++ dfsD items n d, st.2 + sizeT (dfsD items n d)), 0)
  | 0, d, hd, hn, _, _, _, _ => by
    exfalso
    rcases hd with rfl | ⟨x, hx, rfl⟩
    · simp [deepD] at hn
    · have := (deep_step (hr.item hx).1).2; omega
  | n + 1, d, hd, hn, hl, st, h1, h2 => by
    obtain ⟨h3, h4⟩ := loadC_of (o := o) (hr.dir (n + 1) d) (hl _ (nodesD_top (n + 1) d))
    have hk : (dirN pc items (n + 1) d).kind = 3 := rfl
    rw [hk] at h3
    show (if loadC o (keyN (dirN pc items (n + 1) d)) 3 ≠ 0 then _ else entsC o (dirC o n) d (nodeC o (keyN (dirN pc items (n + 1) d))).ents st) = _
    rw [if_neg (by rw [h3]; simp), h4]
    refine entsC_of hr (fun x hx hxd st' h5 h6 => ?_) (fun m hm => hl m (by rw [nodesD_succ]; exact List.mem_append_left _ hm)) (inD items d) st (fun _ hx => hx) h1 h2
    obtain ⟨hx1, hx2⟩ := mem_inD.1 hx
    have hdp := (deep_step (hr.item hx1).1).1
    rw [hx2] at hdp
    exact dirC_of hr n x.1 (.inr ⟨x, hx1, rfl⟩) (by omega) (fun m hm => hl m (nodesD_dir hx hxd m hm)) st' h5 h6
theorem dfs_mem (hr : Ready pc items) : ∀ (n : Nat) (d : List UInt8) (x : Itm), x ∈ dfsD items n d ↔ ∃ q, (q, x.2) ∈ relD items n d ∧ partsL x.1 = pdD d ++ q ∧ x ∈ items
  | 0, d, x => by simp [dfsD, relD]
  | n + 1, d, x => by
    rw [dfsD_succ]
    unfold relD
    constructor
    · intro h
      obtain ⟨y, hy, h⟩ := List.mem_flatMap.1 h
      obtain ⟨hy1, hy2⟩ := mem_inD.1 hy
      have hf := (hr.item hy1).1
      have hp := pd_step hf
      rw [hy2] at hp
      rcases List.mem_cons.1 h with rfl | h
      · exact ⟨[lastN x.1], List.mem_flatMap.2 ⟨x, hy, List.mem_cons_self⟩, hp, hy1⟩
      · split at h
        · rename_i hyd
          obtain ⟨q, h1, h2, h3⟩ := (dfs_mem hr n y.1 x).1 h
          refine ⟨lastN y.1 :: q, List.mem_flatMap.2 ⟨y, hy, ?_⟩, ?_, h3⟩
          · rw [if_pos hyd]
            exact List.mem_cons_of_mem _ (List.mem_map.2 ⟨_, h1, rfl⟩)
          · rw [h2, pd_fit hf, hp]; simp
        · cases h
    · rintro ⟨q, h, hp, hx⟩
      obtain ⟨y, hy, h⟩ := List.mem_flatMap.1 h
      obtain ⟨hy1, hy2⟩ := mem_inD.1 hy
      have hf := (hr.item hy1).1
      have hpy := pd_step hf
      rw [hy2] at hpy
      refine List.mem_flatMap.2 ⟨y, hy, ?_⟩
      rcases List.mem_cons.1 h with h | h
      · injection h with e1 e2
        have : x = y := Prod.ext (parts_inj (by rw [hp, hpy, e1])) e2
        rw [this]
        exact List.mem_cons_self
      · split at h
        · rename_i hyd
          rw [if_pos hyd]
          obtain ⟨r, hr2, e⟩ := List.mem_map.1 h
          injection e with e1 e2
          refine List.mem_cons_of_mem _ ((dfs_mem hr n y.1 x).2 ⟨r.1, by rw [← e2]; exact hr2, ?_, hx⟩)
          rw [hp, pd_fit hf, hpy, ← e1]; simp
        · cases h
theorem dfs_all (hr : Ready pc items) (x : Itm) : x ∈ dfsD items 9 [] ↔ x ∈ items := by
  rw [dfs_mem hr]
  constructor
  · rintro ⟨_, _, _, h⟩; exact h
  · intro h
    exact ⟨partsL x.1, rel_whole hr _ x h rfl, by simp [pdD], h⟩
theorem dfs_new (hr : Ready pc items) : ∀ (n : Nat) (d : List UInt8), (d = [] ∨ fitB d = true) → NewI d (dfsD items n d)
  | 0, d, _ => NewI.nil d
  | n + 1, d, hd => by
    rw [dfsD_succ]
    have key : ∀ (t : List Itm), (∀ x ∈ t, x ∈ inD items d) → t.Pairwise (fun a b => lastN a.1 < lastN b.1) → NewI d (t.flatMap (fun x => x :: if x.2.1 = true then dfsD items n x.1 else [])) ∧
        ∀ y ∈ t.flatMap (fun x => x :: if x.2.1 = true then dfsD items n x.1 else []), ∃ x ∈ t, ∃ q, partsL y.1 = pdD d ++ lastN x.1 :: q := by
      intro t
      induction t with
      | nil => intro _ _; exact ⟨NewI.nil d, by simp⟩
      | cons x t ih =>
        intro ht hp
        rw [List.pairwise_cons] at hp
        obtain ⟨i1, i2⟩ := ih (fun y hy => ht y (List.mem_cons_of_mem _ hy)) hp.2
        obtain ⟨hx1, hx2⟩ := mem_inD.1 (ht x List.mem_cons_self)
        obtain ⟨hf, ho, hdl, -⟩ := hr.item hx1
        have hat : x.1 = atD d ++ lastN x.1 := by rw [← hx2]; exact (at_dir hf).symm
        obtain ⟨a1, a2⟩ := NewI.one (x := x) (l := if x.2.1 = true then dfsD items n x.1 else []) hd (last_name hf) hat hf hx2 ho hdl (by
          split
          · exact dfs_new hr n x.1 (.inr hf)
          · exact NewI.nil _) (by
          cases hb : x.2.1 with
          | true => exact .inr rfl
          | false => exact .inl (if_neg (by simp)))
        rw [List.flatMap_cons]
        refine ⟨a1.app i1 fun u hu v hv => ?_, fun y hy => ?_⟩
        · obtain ⟨q1, e1⟩ := a2 u hu
          obtain ⟨z, hz, q2, e2⟩ := i2 v hv
          rw [ltP_iff]
          unfold orderL
          rw [e1, e2]
          exact cmp_first _ _ _ (hp.1 z hz)
        · rcases List.mem_append.1 hy with hy | hy
          · obtain ⟨q, e⟩ := a2 y hy
            exact ⟨x, List.mem_cons_self, q, e⟩
          · obtain ⟨z, hz, e⟩ := i2 y hy
            exact ⟨z, List.mem_cons_of_mem _ hz, e⟩
    exact (key (inD items d) (fun _ hx => hx) (hr.lasts d)).1
/-- THERE AND BACK. -/
theorem told_back (hr : Ready pc items) (hl : Loads o (nodesD pc items 9 [])) : dirC o 9 (keyN (dirN pc items 9 [])) [] ([], 0) = ((items, sizeT items), 0) := by
  have heq : dfsD items 9 [] = items :=
    sorted_ext (R := fun a b : Itm => ltP a.1 b.1 = true) (fun a e => by rw [ltP_irrefl] at e; cases e) (fun a b e e2 => by rw [ltP_asymm e] at e2; cases e2) (List.pairwise_map.1 (dfs_new hr 9 [] (.inl rfl)).up) (List.pairwise_map.1 hr.fit.up) (dfs_all hr)
  have h1 := dirC_of (o := o) hr 9 [] (.inl rfl) (by simp [deepD]) hl ([], 0) (by rw [heq]; have := hr.fit.len; simp; omega) (by rw [heq]; have := hr.fit.size; simp; omega)
  rw [List.nil_append, Nat.zero_add] at h1
  rw [h1, heq]
end
end Go.Proofs.YtaompdnnkfmjhaaGreatDoor

namespace Go.Proofs.YtaompdnnkfmjhaaGreatDoor

/-- One node of some cannot be loaded, all others can. -/
structure LessI (o : List Snp) (l : List Nod) (n0 : Nod) (c : Int) : Prop where
  bad : ∀ kind, loadC o (keyN n0) kind = c
  good : ∀ n ∈ l, n ≠ n0 → findR o (keyN n) = some (writeN n)
  ne : c ≠ 0
section
variable {pc : List UInt8 → List (List UInt8)} {items : List Itm} {o : List Snp} {n0 : Nod} {c : Int}
theorem LessI.mono {l m : List Nod} (h : LessI o l n0 c) (hm : ∀ x ∈ m, x ∈ l) : LessI o m n0 c := ⟨h.bad, fun n hn => h.good n (hm n hn), h.ne⟩
theorem LessI.loads {l : List Nod} (h : LessI o l n0 c) (hn : n0 ∉ l) : Loads o l := fun n hm => h.good n hm (fun e => hn (e ▸ hm))
theorem partsC_less : ∀ (ps : List (List UInt8)) (acc : List UInt8) (s : Nat), (∀ t ∈ ps, 1 ≤ t.length ∧ t.length ≤ 4096) → LessI o (ps.map pieceN) n0 c → n0 ∈ ps.map pieceN → s + ps.flatten.length ≤ 65536 → (partsC o (ps.map partN) acc s).2.2 = c
  | [], _, _, _, _, h, _ => by cases h
  | t :: ps, acc, s, he, hl, hn, hs => by
    obtain ⟨h1, h2⟩ := he t List.mem_cons_self
    rw [List.map_cons]
    unfold partsC
    have hp : (partN t).1 = keyN (pieceN t) := rfl
    rw [hp]
    by_cases ht : pieceN t = n0
    · rw [ht, hl.bad, if_pos hl.ne]
    · obtain ⟨h3, h4⟩ := loadC_of (o := o) (fit_piece h1 h2) (hl.good _ (List.mem_map.2 ⟨t, List.mem_cons_self, rfl⟩) ht)
      have hk : (pieceN t).kind = 1 := rfl
      rw [hk] at h3
      rw [List.flatten_cons, List.length_append] at hs
      rw [if_neg (by rw [h3]; simp), h4, if_neg]
      · refine partsC_less ps _ _ (fun u hu => he u (List.mem_cons_of_mem _ hu)) (hl.mono fun x hx => by rw [List.map_cons]; exact List.mem_cons_of_mem _ hx) ?_ (by show s + t.length + _ ≤ _; omega)
        rw [List.map_cons] at hn
        rcases List.mem_cons.1 hn with e | hn
        · exact absurd e.symm ht
        · exact hn
      · show ¬ ((t.length : Int) ≠ (t.length : Int) ∨ 65536 < s + t.length)
        omega
theorem fileC_less (hr : Ready pc items) {x : Itm} (hx : x ∈ items) (hl : LessI o (nodesF (pc x.2.2.2)) n0 c) (hn : n0 ∈ nodesF (pc x.2.2.2)) {s : Nat} (hs : s + x.2.2.2.length ≤ 65536) : (fileC o (keyN (fileN (pc x.2.2.2))) s).2.2 = c := by
  unfold fileC
  by_cases ht : fileN (pc x.2.2.2) = n0
  · rw [ht, hl.bad, if_pos hl.ne]
  · obtain ⟨h3, h4⟩ := loadC_of (o := o) (hr.file hx) (hl.good _ (List.mem_append_right _ (List.mem_singleton.2 rfl)) ht)
    have hk : (fileN (pc x.2.2.2)).kind = 2 := rfl
    rw [hk] at h3
    rw [if_neg (by rw [h3]; simp), h4]
    refine partsC_less (pc x.2.2.2) [] s (hr.each x hx) (hl.mono fun y hy => List.mem_append_left _ hy) ?_ (by rw [hr.flat x hx]; exact hs)
    unfold nodesF at hn
    rcases List.mem_append.1 hn with hn | hn
    · exact hn
    · exact absurd (List.mem_singleton.1 hn).symm ht
theorem entC1_less (hr : Ready pc items) {n : Nat} {d : List UInt8} {x : Itm} (hx : x ∈ inD items d) (IH : x.2.1 = true → ∀ (st : StC), st.1.length + (dfsD items n x.1).length ≤ 60 → st.2 + sizeT (dfsD items n x.1) ≤ 65536 → (dirC o n (keyN (dirN pc items n x.1)) x.1 st).2 = c)
    (hl : LessI o (if x.2.1 = true then nodesD pc items n x.1 else nodesF (pc x.2.2.2)) n0 c) (hn : n0 ∈ (if x.2.1 = true then nodesD pc items n x.1 else nodesF (pc x.2.2.2))) (st : StC)
    (h1 : st.1.length + 1 + (if x.2.1 = true then dfsD items n x.1 else []).length ≤ 60) (h2 : st.2 + (x.2.2.2.length + sizeT (if x.2.1 = true then dfsD items n x.1 else [])) ≤ 65536) :
    (entC1 o (dirC o n) d (entK pc (fun p => keyN (dirN pc items n p)) x) st).2 = c := by
  obtain ⟨hx1, hx2⟩ := mem_inD.1 hx
  obtain ⟨hf, ho, hdl, -⟩ := hr.item hx1
  have hp : atD d ++ lastN x.1 = x.1 := by rw [← hx2]; exact at_dir hf
  unfold entC1
  have e1 : (entK pc (fun p => keyN (dirN pc items n p)) x).1 = lastN x.1 := rfl
  rw [e1, hp, if_neg (by have := count_of hf; omega), if_neg (by omega)]
  cases hd : x.2.1 with
  | true =>
    have e2 : (entK pc (fun p => keyN (dirN pc items n p)) x).2.1 = 3 := by simp [entK, hd]
    have e3 : (entK pc (fun p => keyN (dirN pc items n p)) x).2.2.2 = keyN (dirN pc items n x.1) := by simp [entK, hd]
    rw [hd, if_pos rfl] at h1 h2
    rw [e2, if_pos rfl, e3]
    exact IH hd _ (by rw [List.length_append]; simp; omega) (by simp only; omega)
  | false =>
    have e2 : (entK pc (fun p => keyN (dirN pc items n p)) x).2.1 = 2 := by simp [entK, hd]
    have e3 : (entK pc (fun p => keyN (dirN pc items n p)) x).2.2.2 = keyN (fileN (pc x.2.2.2)) := by simp [entK, hd]
    rw [hd, if_neg (by simp)] at hl hn
    rw [e2, if_neg (by decide), e3]
    exact fileC_less hr hx1 hl hn (by omega)
theorem dirC_less (hr : Ready pc items) : ∀ (n : Nat) (d : List UInt8), DirOf items d → n + deepD d = 9 → LessI o (nodesD pc items n d) n0 c → n0 ∈ nodesD pc items n d → ∀ (st : StC), st.1.length + (dfsD items n d).length ≤ 60 → st.2 + sizeT (dfsD items n d) ≤ 65536 →
    (dirC o n (keyN (dirN pc items n d)) d st).2 = c
  | 0, d, hd, hn, _, _, _, _, _ => by
    exfalso
    rcases hd with rfl | ⟨x, hx, rfl⟩
    · simp [deepD] at hn
    · have := (deep_step (hr.item hx).1).2; omega
  | n + 1, d, hd, hn, hl, hmem, st, h1, h2 => by
    show (if loadC o (keyN (dirN pc items (n + 1) d)) 3 ≠ 0 then (st, loadC o (keyN (dirN pc items (n + 1) d)) 3) else entsC o (dirC o n) d (nodeC o (keyN (dirN pc items (n + 1) d))).ents st).2 = c
    by_cases ht : dirN pc items (n + 1) d = n0
    · rw [ht, hl.bad, if_pos hl.ne]
    obtain ⟨h3, h4⟩ := loadC_of (o := o) (hr.dir (n + 1) d) (hl.good _ (nodesD_top (n + 1) d) ht)
    have hk : (dirN pc items (n + 1) d).kind = 3 := rfl
    rw [hk] at h3
    rw [if_neg (by rw [h3]; simp), h4]
    have hm2 : n0 ∈ nodesS pc items n (inD items d) := by
      rw [nodesD_succ] at hmem
      rcases List.mem_append.1 hmem with h | h
      · exact h
      · exact absurd (List.mem_singleton.1 h).symm ht
    have key : ∀ (t : List Itm) (st : StC), (∀ x ∈ t, x ∈ inD items d) → n0 ∈ nodesS pc items n t → st.1.length + (t.flatMap (fun x => x :: if x.2.1 = true then dfsD items n x.1 else [])).length ≤ 60 → st.2 + sizeT (t.flatMap (fun x => x :: if x.2.1 = true then dfsD items n x.1 else [])) ≤ 65536 →
        (entsC o (dirC o n) d (t.map (entK pc (fun p => keyN (dirN pc items n p)))) st).2 = c := by
      intro t
      induction t with
      | nil => intro _ _ h _ _; cases h
      | cons x t ih =>
        intro st ht2 hm3 h5 h6
        have hx := ht2 x List.mem_cons_self
        obtain ⟨hx1, hx2⟩ := mem_inD.1 hx
        have hdp := (deep_step (hr.item hx1).1).1
        rw [hx2] at hdp
        rw [List.flatMap_cons, List.length_append, List.length_cons] at h5
        rw [List.flatMap_cons, List.cons_append, sizeT_cons, sizeT_app] at h6
        have hsub : ∀ m ∈ (if x.2.1 = true then nodesD pc items n x.1 else nodesF (pc x.2.2.2)), m ∈ nodesD pc items (n + 1) d := nodesD_sub hx
        rw [List.map_cons]
        unfold entsC
        by_cases hin : n0 ∈ (if x.2.1 = true then nodesD pc items n x.1 else nodesF (pc x.2.2.2))
        · have hone := entC1_less (o := o) hr hx (fun hxd st' h7 h8 => by
            rw [hxd, if_pos rfl] at hin
            exact dirC_less hr n x.1 (.inr ⟨x, hx1, rfl⟩) (by omega) (hl.mono fun m hm => nodesD_dir hx hxd m hm) hin st' h7 h8) (hl.mono hsub) hin st (by omega) (by omega)
          rw [hone, if_pos hl.ne]
          exact hone
        · have hlo : Loads o (if x.2.1 = true then nodesD pc items n x.1 else nodesF (pc x.2.2.2)) := (hl.mono hsub).loads hin
          have hone := entC1_of (o := o) hr hx (fun hxd st' h7 h8 => by
            rw [hxd, if_pos rfl] at hlo
            exact dirC_of hr n x.1 (.inr ⟨x, hx1, rfl⟩) (by omega) hlo st' h7 h8) hlo st (by omega) (by omega)
          rw [hone, if_neg (by simp)]
          have hm4 : n0 ∈ nodesS pc items n t := by
            unfold nodesS at hm3 ⊢
            rw [List.flatMap_cons] at hm3
            rcases List.mem_append.1 hm3 with h | h
            · exact absurd h hin
            · exact h
          exact ih _ (fun y hy => ht2 y (List.mem_cons_of_mem _ hy)) hm4 (by simp only [List.length_append, List.length_cons]; omega) (by simp only [sizeT_cons]; omega)
    exact key (inD items d) st (fun _ hx => hx) hm2 h1 h2
theorem dfs_is (hr : Ready pc items) : dfsD items 9 [] = items :=
  sorted_ext (R := fun a b : Itm => ltP a.1 b.1 = true) (fun a e => by rw [ltP_irrefl] at e; cases e) (fun a b e e2 => by rw [ltP_asymm e] at e2; cases e2) (List.pairwise_map.1 (dfs_new hr 9 [] (.inl rfl)).up) (List.pairwise_map.1 hr.fit.up) (dfs_all hr)
theorem told_less (hr : Ready pc items) (hl : LessI o (nodesD pc items 9 []) n0 c) (hm : n0 ∈ nodesD pc items 9 []) : (dirC o 9 (keyN (dirN pc items 9 [])) [] ([], 0)).2 = c :=
  dirC_less hr 9 [] (.inl rfl) (by simp [deepD]) hl hm ([], 0) (by rw [dfs_is hr]; have := hr.fit.len; simp; omega) (by rw [dfs_is hr]; have := hr.fit.size; simp; omega)

/-! The objects of a tree. -/
theorem loads_objs (hr : Ready pc items) (h1 : OneK (nodesD pc items 9 [])) : Loads (dirO pc items 9 [] []) (nodesD pc items 9 []) := by
  intro n hn
  have h2 := fold_find (nodesD_fit hr 9 []) h1 hn
  rw [← dirO_fold] at h2
  have hu : upS (namesR (dirO pc items 9 [] [])) := fit5_up12 (hr.among 9 [] [] (.inl rfl) rfl ⟨rfl, by simp [namesR]⟩).1
  exact find_mem hu _ h2
theorem find_add {l : List Snp} {x : Snp} {k r : List UInt8} (hu : upS (namesR l)) (h : findR l k = some r) : findR (addO l x) k = some r := by
  unfold addO
  split
  · exact h
  · rename_i hn
    have hx : x.1 ∉ namesR l := by
      intro hm
      apply hn
      left
      rw [findR_is hu]
      simpa using hm
    have h2 : ∃ y ∈ l, y.1 = k ∧ y.2 = r := by
      unfold findR at h
      rw [Option.map_eq_some_iff] at h
      obtain ⟨z, hz, e⟩ := h
      exact ⟨z, List.mem_of_find?_eq_some hz, by have := List.find?_some hz; simpa using this, e⟩
    obtain ⟨y, hy, rfl, rfl⟩ := h2
    exact (addO_finds hu hx).2 y hy
/-- With an object more all can be loaded still. -/
theorem loads_add (hr : Ready pc items) (h1 : OneK (nodesD pc items 9 [])) (x : Snp) : Loads (addO (dirO pc items 9 [] []) x) (nodesD pc items 9 []) := fun n hn =>
  find_add (fit5_up12 (hr.among 9 [] [] (.inl rfl) rfl ⟨rfl, by simp [namesR]⟩).1) (loads_objs hr h1 n hn)
/-- The node of the i-th object. -/
theorem obj_node (_hr : Ready pc items) {y : Snp} (hy : y ∈ dirO pc items 9 [] []) : ∃ n ∈ nodesD pc items 9 [], y = (keyN n, writeN n) := by
  rw [dirO_fold] at hy
  rcases fold_mem _ hy with h | h
  · exact h
  · cases h
theorem find_pick {l : List Snp} (hu : upS (namesR l)) {m : List Snp} (hm : m.Sublist l) {y : Snp} : y ∈ m → findR m y.1 = some y.2 := fun hy =>
  find_mem (List.Pairwise.sublist (hm.map _) hu) y hy
/-- One object gone. -/
theorem less_gone (hr : Ready pc items) (h1 : OneK (nodesD pc items 9 [])) {i : Nat} (hi : i < (dirO pc items 9 [] []).length) {n : Nod} (hn : n ∈ nodesD pc items 9 []) (he : (dirO pc items 9 [] [])[i] = (keyN n, writeN n)) : LessI ((dirO pc items 9 [] []).eraseIdx i) (nodesD pc items 9 []) n 5 := by
  have hu : upS (namesR (dirO pc items 9 [] [])) := fit5_up12 (hr.among 9 [] [] (.inl rfl) rfl ⟨rfl, by simp [namesR]⟩).1
  have hs := List.eraseIdx_sublist (dirO pc items 9 [] []) i
  refine ⟨fun kind => ?_, fun m hm hne => ?_, by decide⟩
  · unfold loadC
    rw [if_pos]
    rw [Option.isSome_eq_false_iff, Option.isNone_iff_eq_none]
    refine findR_none fun hk => ?_
    obtain ⟨y, hy, e⟩ := List.mem_map.1 hk
    obtain ⟨j, hj, hji⟩ := List.mem_eraseIdx_iff_getElem.1 hy
    obtain ⟨hne, hje⟩ := hji
    have e2 : (dirO pc items 9 [] [])[j].1 = (dirO pc items 9 [] [])[i].1 := by rw [hje, he, e]
    unfold namesR upS at hu
    rw [List.pairwise_iff_getElem] at hu
    rcases Nat.lt_or_gt_of_ne hne with h | h
    · have := hu j i (by simpa using hj) (by simpa using hi) h
      simp only [List.getElem_map, e2] at this
      exact List.lt_irrefl _ this
    · have := hu i j (by simpa using hi) (by simpa using hj) h
      simp only [List.getElem_map, e2] at this
      exact List.lt_irrefl _ this
  · have h2 := fold_find (nodesD_fit hr 9 []) h1 hm
    rw [← dirO_fold] at h2
    refine find_pick hu hs (y := (keyN m, writeN m)) ?_
    obtain ⟨j, hj, hje⟩ := List.getElem_of_mem h2
    refine List.mem_eraseIdx_iff_getElem.2 ⟨j, hj, ?_, hje⟩
    rintro rfl
    rw [hje] at he
    injection he with e1 e2
    exact hne (h1 m hm n hn e1)
/-- One object with other bytes. -/
theorem less_bad (hr : Ready pc items) {rs : List (List UInt8)} (hc : ¬ ClashP rs) (hrs : ∀ r ∈ rawsN (nodesD pc items 9 []), r ∈ rs) {i : Nat} (hi : i < (dirO pc items 9 [] []).length) {n : Nod} (hn : n ∈ nodesD pc items 9 []) (he : (dirO pc items 9 [] [])[i] = (keyN n, writeN n)) {r : List UInt8} (hr2 : r ∈ rs) (hne2 : r ≠ writeN n) :
    LessI ((dirO pc items 9 [] []).set i (keyN n, r)) (nodesD pc items 9 []) n 11 := by
  have hu : upS (namesR (dirO pc items 9 [] [])) := fit5_up12 (hr.among 9 [] [] (.inl rfl) rfl ⟨rfl, by simp [namesR]⟩).1
  have hcl : ¬ ClashP (rawsN (nodesD pc items 9 [])) := fun ⟨a, ha, b, hb, h⟩ => hc ⟨a, hrs a ha, b, hrs b hb, h⟩
  have h1 := one_of_clash (nodesD_fit hr 9 []) hcl
  have hnames : namesR ((dirO pc items 9 [] []).set i (keyN n, r)) = namesR (dirO pc items 9 [] []) := by
    unfold namesR
    rw [List.map_set]
    have : (keyN n, r).1 = ((dirO pc items 9 [] []).map (·.1))[i]'(by simpa using hi) := by simp [he]
    rw [this, List.set_getElem_self]
  have hu2 : upS (namesR ((dirO pc items 9 [] []).set i (keyN n, r))) := by rw [hnames]; exact hu
  refine ⟨fun kind => ?_, fun m hm hne => ?_, by decide⟩
  · have hf : findR ((dirO pc items 9 [] []).set i (keyN n, r)) (keyN n) = some r := find_mem hu2 (keyN n, r) (List.mem_iff_getElem.2 ⟨i, by simpa using hi, by simp⟩)
    unfold loadC
    rw [if_neg (by rw [hf]; simp), if_pos]
    rw [hf]
    show shaF r ≠ keyN n
    intro e
    rw [keyN_eq (nodesD_fit hr 9 [] n hn)] at e
    exact hc ⟨r, hr2, writeN n, hrs _ (List.mem_map.2 ⟨n, hn, rfl⟩), hne2, e⟩
  · have h2 := fold_find (nodesD_fit hr 9 []) h1 hm
    rw [← dirO_fold] at h2
    obtain ⟨j, hj, hje⟩ := List.getElem_of_mem h2
    refine find_mem hu2 (keyN m, writeN m) (List.mem_iff_getElem.2 ⟨j, by simpa using hj, ?_⟩)
    rw [List.getElem_set, if_neg, hje]
    rintro rfl
    rw [hje] at he
    injection he with e1 e2
    exact hne (h1 m hm n hn e1)
end
end Go.Proofs.YtaompdnnkfmjhaaGreatDoor

namespace Go.Proofs.YtaompdnnkfmjhaaGreatDoor

section
variable {pc : List UInt8 → List (List UInt8)} {items : List Itm}
theorem kids_of {o : List Snp} {n : Nod} (hn : FitN n) (h : findR o (keyN n) = some (writeN n)) : kidsO o (keyN n) = kidsN n ∧ okO o (keyN n) = true := by
  have h1 : readN (writeN n) = (n, 0) := read_write hn
  unfold kidsO okO
  rw [h]
  simp only [rootOf]
  unfold kidsR
  rw [h1]
  simp
theorem reach_nodes (hr : Ready pc items) {o : List Snp} {P : List UInt8 → Prop} : ∀ (n : Nat) (d : List UInt8), Loads o (nodesD pc items n d) → Reached o P (keyN (dirN pc items n d)) → ∀ m ∈ nodesD pc items n d, Reached o P (keyN m)
  | 0, d, _, h, m, hm => by rw [List.mem_singleton.1 hm]; exact h
  | n + 1, d, hl, h, m, hm => by
    have hk := (kids_of (hr.dir (n + 1) d) (hl _ (nodesD_top (n + 1) d))).1
    rw [nodesD_succ] at hm
    rcases List.mem_append.1 hm with hm | hm
    · obtain ⟨x, hx, hm⟩ := List.mem_flatMap.1 hm
      have hx1 := (mem_inD.1 hx).1
      have he : entK pc (fun p => keyN (dirN pc items n p)) x ∈ (dirN pc items (n + 1) d).ents := List.mem_map.2 ⟨x, hx, rfl⟩
      cases hd : x.2.1 with
      | true =>
        rw [hd, if_pos rfl] at hm
        have e3 : (entK pc (fun p => keyN (dirN pc items n p)) x).2.2.2 = keyN (dirN pc items n x.1) := by simp [entK, hd]
        have h2 : keyN (dirN pc items n x.1) ∈ kidsO o (keyN (dirN pc items (n + 1) d)) := by
          rw [hk, ← e3]
          exact (kidsN_ent he).2 (by rw [e3]; exact keyN_len (hr.dir n x.1))
        exact reach_nodes hr n x.1 (fun q hq => hl q (nodesD_dir hx hd q hq)) (h.next h2) m hm
      | false =>
        rw [hd, if_neg (by simp)] at hm
        have e3 : (entK pc (fun p => keyN (dirN pc items n p)) x).2.2.2 = keyN (fileN (pc x.2.2.2)) := by simp [entK, hd]
        have h2 : keyN (fileN (pc x.2.2.2)) ∈ kidsO o (keyN (dirN pc items (n + 1) d)) := by
          rw [hk, ← e3]
          exact (kidsN_ent he).2 (by rw [e3]; exact keyN_len (hr.file hx1))
        have h3 := h.next h2
        have hkf := (kids_of (hr.file hx1) (hl _ (nodesD_file hx hd _ (List.mem_append_right _ (List.mem_singleton.2 rfl))))).1
        unfold nodesF at hm
        rcases List.mem_append.1 hm with hm | hm
        · obtain ⟨s, hs, rfl⟩ := List.mem_map.1 hm
          refine h3.next ?_
          rw [hkf]
          have hp : partN s ∈ (fileN (pc x.2.2.2)).parts := List.mem_map.2 ⟨s, hs, rfl⟩
          have h4 := hr.each x hx1 s hs
          exact (kidsN_part hp).2 (keyN_len (fit_piece h4.1 h4.2))
        · rw [List.mem_singleton.1 hm]; exact h3
    · rw [List.mem_singleton.1 hm]; exact h
theorem reach_all (hr : Ready pc items) (h1 : OneK (nodesD pc items 9 [])) (x : List UInt8) : Reached (dirO pc items 9 [] []) (seedP [keyN (dirN pc items 9 [])]) x ↔ x ∈ namesR (dirO pc items 9 [] []) := by
  have hl := loads_objs hr h1
  have hns := nodesD_fit hr 9 []
  constructor
  · intro h
    refine h (fun k => k ∈ namesR (dirO pc items 9 [] [])) (fun k hk => ?_) (fun k y hk hy => ?_)
    · rw [dirO_fold]
      have e : k = keyN (dirN pc items 9 []) := by
        unfold seedP at hk
        simpa using hk.1
      rw [e]
      exact fold_key _ rfl hns _ (nodesD_top 9 [])
    · obtain ⟨z, hz, rfl⟩ := List.mem_map.1 hk
      obtain ⟨n, hn, e⟩ := obj_node hr hz
      rw [e] at hy
      rw [(kids_of (hns n hn) (hl n hn)).1] at hy
      obtain ⟨q, hq, rfl⟩ := nodesD_kids 9 [] hn hy
      rw [dirO_fold]
      exact fold_key _ rfl hns q hq
  · intro h
    obtain ⟨z, hz, rfl⟩ := List.mem_map.1 h
    obtain ⟨n, hn, e⟩ := obj_node hr hz
    rw [e]
    exact reach_nodes hr 9 [] hl (Reached.seed ⟨by simp, keyN_len (hr.dir 9 [])⟩) n hn
theorem reach_ok (hr : Ready pc items) (h1 : OneK (nodesD pc items 9 [])) {Q : List (List UInt8)} (hq : ∀ x ∈ Q, x ∈ namesR (dirO pc items 9 [] [])) : Q.all (okO (dirO pc items 9 [] [])) = true := by
  rw [List.all_eq_true]
  intro x hx
  obtain ⟨z, hz, rfl⟩ := List.mem_map.1 (hq x hx)
  obtain ⟨n, hn, e⟩ := obj_node hr hz
  rw [e]
  exact (kids_of (nodesD_fit hr 9 [] n hn) (loads_objs hr h1 n hn)).2
end
end Go.Proofs.YtaompdnnkfmjhaaGreatDoor
