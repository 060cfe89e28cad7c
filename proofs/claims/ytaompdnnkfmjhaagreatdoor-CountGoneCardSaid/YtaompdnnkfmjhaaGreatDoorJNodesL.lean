/- How many nodes a tree has: plain. Trees out of objects, as fetch does it, and that what is told is a tree that can be: plain. -/
import Derived.Test.YtaompdnnkfmjhaaGreatDoorNodesT
import Derived.Test.YtaompdnnkfmjhaaGreatDoorJKeyNP
namespace Go.Proofs.YtaompdnnkfmjhaaGreatDoor

section
variable {pc : List UInt8 → List (List UInt8)} {items : List Itm}
theorem rel_ne : ∀ (n : Nat) (d : List UInt8) {r : List (List UInt8) × (Bool × Bool × List UInt8)}, r ∈ relD items n d → r.1 ≠ []
  | 0, _, _, h => by cases h
  | n + 1, d, r, h => by
    unfold relD at h
    obtain ⟨x, hx, h⟩ := List.mem_flatMap.1 h
    rcases List.mem_cons.1 h with rfl | h
    · simp
    · split at h
      · obtain ⟨r', hr', rfl⟩ := List.mem_map.1 h
        simp
      · cases h
theorem Ready.lasts (hr : Ready pc items) (d : List UInt8) : (inD items d).Pairwise (fun a b => lastN a.1 < lastN b.1) := by
  rcases hr.dir 1 d with h | h | h
  · exact absurd h.1 (by simp [dirN])
  · exact absurd h.1 (by simp [dirN])
  · have h2 := h.2.2.2.rises
    unfold risesE at h2
    rw [show (dirN pc items 1 d).ents = (inD items d).map (entK pc (fun p => keyN (dirN pc items 0 p))) from rfl, List.map_map, List.pairwise_map] at h2
    exact h2
theorem rel_nodup (hr : Ready pc items) : ∀ (n : Nat) (d : List UInt8), (relD items n d).Nodup
  | 0, _ => List.Pairwise.nil
  | n + 1, d => by
    unfold relD
    refine List.pairwise_flatMap.2 ⟨fun x _ => ?_, ?_⟩
    · split
      · refine List.pairwise_cons.2 ⟨fun r hr2 e => ?_, ?_⟩
        · obtain ⟨r', hr', rfl⟩ := List.mem_map.1 hr2
          have := rel_ne n x.1 hr'
          injection e with e1 _
          injection e1 with _ e1
          exact this e1.symm
        · refine List.pairwise_map.2 (List.Pairwise.imp ?_ (rel_nodup hr n x.1))
          intro a b hab e
          injection e with e1 e2
          injection e1 with _ e1
          exact hab (Prod.ext e1 e2)
      · exact List.pairwise_singleton _ _
    · refine List.Pairwise.imp ?_ (hr.lasts d)
      intro a b hab r hra s hsb e
      have first : ∀ {z : Itm} {t : List (List UInt8) × (Bool × Bool × List UInt8)}, t ∈ (([lastN z.1], z.2) :: if z.2.1 = true then (relD items n z.1).map (fun r => (lastN z.1 :: r.1, r.2)) else []) → t.1.head? = some (lastN z.1) := by
        intro z t ht
        rcases List.mem_cons.1 ht with rfl | ht
        · rfl
        · split at ht
          · obtain ⟨r', _, rfl⟩ := List.mem_map.1 ht
            rfl
          · cases ht
      have h1 := first hra
      have h2 := first hsb
      rw [e, h2] at h1
      injection h1 with h1
      rw [h1] at hab
      exact List.lt_irrefl _ hab
theorem rel_len (hr : Ready pc items) : (relD items 9 []).length ≤ items.length := by
  have h := nodup_le (relD items 9 []) (items.map (fun x => (partsL x.1, x.2))) (rel_nodup hr 9 []) fun r h => by
    obtain ⟨x, hx, e1, e2⟩ := rel_sound hr 9 [] h
    refine List.mem_map.2 ⟨x, hx, ?_⟩
    refine Prod.ext ?_ e2.symm
    simpa [pdD] using e1
  rwa [List.length_map] at h
theorem nodes_rel (hr : Ready pc items) : ∀ (n : Nat) (d : List UInt8), (nodesD pc items n d).length ≤ 1 + 1026 * (relD items n d).length
  | 0, _ => by simp [nodesD]
  | n + 1, d => by
    rw [nodesD_succ, List.length_append, List.length_singleton]
    unfold relD nodesS
    have key : ∀ (l : List Itm), (∀ x ∈ l, x ∈ items) → (l.flatMap (fun x => if x.2.1 = true then nodesD pc items n x.1 else nodesF (pc x.2.2.2))).length ≤ 1026 * (l.flatMap (fun x => ([lastN x.1], x.2) :: if x.2.1 = true then (relD items n x.1).map (fun r => (lastN x.1 :: r.1, r.2)) else [])).length := by
      intro l
      induction l with
      | nil => intro _; simp
      | cons x l ih =>
        intro hl
        have h1 := ih (fun y hy => hl y (List.mem_cons_of_mem _ hy))
        have h2 := nodes_rel hr n x.1
        have h3 := hr.few x (hl x List.mem_cons_self)
        rw [List.flatMap_cons, List.length_append, List.flatMap_cons, List.length_append, List.length_cons]
        split
        · rw [List.length_map]; omega
        · have : (nodesF (pc x.2.2.2)).length = (pc x.2.2.2).length + 1 := by simp [nodesF]
          simp only [List.length_nil]
          omega
    have := key (inD items d) (fun x hx => (mem_inD.1 hx).1)
    omega
theorem Ready.nodes_len (hr : Ready pc items) : (nodesD pc items 9 []).length ≤ 70000 := by
  have h1 := nodes_rel hr 9 []
  have h2 := rel_len hr
  have h3 := hr.fit.len
  omega
end
end Go.Proofs.YtaompdnnkfmjhaaGreatDoor

namespace Go.Proofs.YtaompdnnkfmjhaaGreatDoor

noncomputable def nodeC (o : List Snp) (key : List UInt8) : Nod := (readN (rootOf (findR o key))).1
/-- A file's pieces, behind some; how many bytes there are by now, and what is wrong. -/
noncomputable def partsC (o : List Snp) : List Prt → List UInt8 → Nat → List UInt8 × Nat × Int
  | [], acc, s => (acc, s, 0)
  | p :: ps, acc, s => if loadC o p.1 1 ≠ 0 then ([], s, loadC o p.1 1)
    else if ((nodeC o p.1).data.length : Int) ≠ p.2 ∨ 65536 < s + (nodeC o p.1).data.length then ([], s + (nodeC o p.1).data.length, 4)
    else partsC o ps (acc ++ (nodeC o p.1).data) (s + (nodeC o p.1).data.length)
noncomputable def fileC (o : List Snp) (key : List UInt8) (s : Nat) : List UInt8 × Nat × Int :=
  if loadC o key 2 ≠ 0 then ([], s, loadC o key 2) else partsC o (nodeC o key).parts [] s
/-- What stands ahead of the names in a directory. -/
def atD (d : List UInt8) : List UInt8 := if d = [] then [] else d ++ [47]
abbrev StC := List Itm × Nat
noncomputable def entC1 (o : List Snp) (rec : List UInt8 → List UInt8 → StC → StC × Int) (d : List UInt8) (e : Ent) (st : StC) : StC × Int :=
  if 8 ≤ (atD d ++ e.1).count 47 then (st, 8)
  else if 60 ≤ st.1.length then (st, 9)
  else if e.2.1 = 3 then rec e.2.2.2 (atD d ++ e.1) (st.1 ++ [(atD d ++ e.1, true, false, [])], st.2)
  else ((st.1 ++ [(atD d ++ e.1, false, e.2.2.1, (fileC o e.2.2.2 st.2).1)], (fileC o e.2.2.2 st.2).2.1), (fileC o e.2.2.2 st.2).2.2)
noncomputable def entsC (o : List Snp) (rec : List UInt8 → List UInt8 → StC → StC × Int) (d : List UInt8) : List Ent → StC → StC × Int
  | [], st => (st, 0)
  | e :: es, st => if (entC1 o rec d e st).2 ≠ 0 then entC1 o rec d e st else entsC o rec d es (entC1 o rec d e st).1
/-- A directory's items, behind others. -/
noncomputable def dirC (o : List Snp) : Nat → List UInt8 → List UInt8 → StC → StC × Int
  | 0, _, _, st => (st, 8)
  | n + 1, key, d, st => if loadC o key 3 ≠ 0 then (st, loadC o key 3) else entsC o (dirC o n) d (nodeC o key).ents st

/-! Loads that do. -/
theorem loadC_ok {o : List Snp} {key : List UInt8} {kind : Int} (h : loadC o key kind = 0) : FitN (nodeC o key) ∧ (nodeC o key).kind = kind ∧ findR o key = some (writeN (nodeC o key)) := by
  unfold loadC at h
  split at h
  · cases h
  · rename_i h1
    split at h
    · cases h
    · split at h
      · cases h
      · rename_i h2 h3
        split at h
        · cases h
        · rename_i h4
          have h5 : (readN (rootOf (findR o key))).2 = 0 := Classical.not_not.1 h3
          obtain ⟨h6, h7⟩ := read_ok (s := rootOf (findR o key)) (n := nodeC o key) (Prod.ext rfl h5)
          refine ⟨h6, Classical.not_not.1 h4, ?_⟩
          rw [h7]
          cases hf : findR o key with
          | none => rw [hf] at h1; exact absurd rfl h1
          | some r => rfl
theorem loadC_of {o : List Snp} {n : Nod} (hn : FitN n) (h : findR o (keyN n) = some (writeN n)) : loadC o (keyN n) n.kind = 0 ∧ nodeC o (keyN n) = n := by
  have h1 : nodeC o (keyN n) = n := by
    unfold nodeC
    rw [h]
    show (readN (writeN n)).1 = n
    rw [read_write hn]
  refine ⟨?_, h1⟩
  unfold loadC
  rw [if_neg (by rw [h]; simp), if_neg (by rw [h]; exact fun e => e (keyN_eq hn).symm), if_neg (by rw [h]; show ¬ (readN (writeN n)).2 ≠ 0; rw [read_write hn]; simp), if_neg]
  show ¬ (nodeC o (keyN n)).kind ≠ n.kind
  rw [h1]; simp

/-! What is told is a tree. -/
theorem at_parts {d nm : List UInt8} (hd : d = [] ∨ fitB d = true) (hn : nameB nm = true) : partsL (atD d ++ nm) = pdD d ++ [nm] := by
  have hs := nameB_noslash hn
  unfold atD
  rcases hd with rfl | hd
  · rw [if_pos rfl]; exact partsL_name hs
  · rw [if_neg (fun e => by subst e; simp [fitB, splitL, partsL, nameB] at hd), List.append_assoc, pd_fit hd]
    exact partsL_snoc d nm hs
theorem pd_names {d : List UInt8} (hd : d = [] ∨ fitB d = true) : (pdD d).all nameB = true ∧ (pdD d).length = deepD d := by
  rcases hd with rfl | hd
  · simp [pdD, deepD]
  · rw [pd_fit hd]
    refine ⟨List.all_eq_true.2 (fit_parts hd).2.1, ?_⟩
    unfold deepD
    rw [if_neg (fun e => by subst e; simp [fitB, splitL, partsL, nameB] at hd)]
theorem at_fit {d nm : List UInt8} (hd : d = [] ∨ fitB d = true) (hn : nameB nm = true) (hc : (atD d ++ nm).count 47 < 8) : fitB (atD d ++ nm) = true ∧ dirL (atD d ++ nm) = d ∧ deepD (atD d ++ nm) = deepD d + 1 := by
  have hp := at_parts hd hn
  have hl := partsL_depth (atD d ++ nm)
  obtain ⟨hq, hdl⟩ := pd_names hd
  have hf : fitB (atD d ++ nm) = true := by
    rw [fitB_iff]
    refine ⟨by omega, ?_⟩
    rw [hp, List.all_append, hq]
    simp [hn]
  have hs := pd_step hf
  rw [hp] at hs
  have hs2 := (List.append_inj' hs rfl).1
  have hdir : dirL (atD d ++ nm) = d := by
    rcases parts_of_dir hf with ⟨h1, _⟩ | ⟨h1, h2, _⟩
    · rw [h1] at hs2
      rcases hd with rfl | hd
      · exact h1
      · rw [pd_fit hd] at hs2
        exact absurd hs2 (fit_parts hd).2.2
    · rw [pd_fit h2] at hs2
      rcases hd with rfl | hd
      · exact absurd hs2.symm (fit_parts h2).2.2
      · rw [pd_fit hd] at hs2
        exact (parts_inj hs2).symm
  exact ⟨hf, hdir, by rw [(deep_step hf).1, hdir]⟩

/-- Items that come below a directory, behind others: in order, each in a directory that came. -/
structure NewI (d : List UInt8) (l : List Itm) : Prop where
  ok : ∀ x ∈ l, fitB x.1 = true ∧ oddT x = false ∧ x.2.2.2.length ≤ 32768
  at_ : ∀ x ∈ l, ∃ q, q ≠ [] ∧ partsL x.1 = pdD d ++ q
  dir : ∀ x ∈ l, dirL x.1 = d ∨ ∃ y ∈ l, y.1 = dirL x.1 ∧ y.2.1 = true
  up : upT (l.map (·.1))
theorem cmp_first : ∀ (a : List (List UInt8)) {u v : List UInt8} (s t : List (List UInt8)), u < v → cmpParts (a ++ u :: s) (a ++ v :: t) = -1
  | [], u, v, s, t, h => by
    simp only [List.nil_append, cmpParts]
    rw [if_pos h]
  | c :: a, u, v, s, t, h => by
    simp only [List.cons_append, cmpParts]
    rw [if_neg (List.lt_irrefl c), if_neg (List.lt_irrefl c)]
    exact cmp_first a s t h
/-- All that comes with one entry: its own item ahead, then what lies in it. -/
theorem NewI.one {d nm : List UInt8} {x : Itm} {l : List Itm} (hd : d = [] ∨ fitB d = true) (hn : nameB nm = true) (hx : x.1 = atD d ++ nm) (hf : fitB x.1 = true) (hdx : dirL x.1 = d) (ho : oddT x = false) (hl : x.2.2.2.length ≤ 32768) (h : NewI x.1 l) (hdir : l = [] ∨ x.2.1 = true) :
    NewI d (x :: l) ∧ ∀ y ∈ x :: l, ∃ q, partsL y.1 = pdD d ++ nm :: q := by
  have hp : partsL x.1 = pdD d ++ [nm] := by rw [hx]; exact at_parts hd hn
  have hsub : ∀ y ∈ l, ∃ q, q ≠ [] ∧ partsL y.1 = pdD d ++ nm :: q := fun y hy => by
    obtain ⟨q, hq, e⟩ := h.at_ y hy
    refine ⟨q, hq, ?_⟩
    rw [e, pd_fit hf, hp]; simp
  refine ⟨⟨fun y hy => ?_, fun y hy => ?_, fun y hy => ?_, ?_⟩, fun y hy => ?_⟩
  · rcases List.mem_cons.1 hy with rfl | hy
    · exact ⟨hf, ho, hl⟩
    · exact h.ok y hy
  · rcases List.mem_cons.1 hy with rfl | hy
    · exact ⟨[nm], by simp, hp⟩
    · obtain ⟨q, _, e⟩ := hsub y hy
      exact ⟨nm :: q, by simp, e⟩
  · rcases List.mem_cons.1 hy with rfl | hy
    · exact .inl hdx
    · rcases h.dir y hy with e | ⟨z, hz, e1, e2⟩
      · refine .inr ⟨x, List.mem_cons_self, e.symm, ?_⟩
        rcases hdir with rfl | hdir
        · cases hy
        · exact hdir
      · exact .inr ⟨z, List.mem_cons_of_mem _ hz, e1, e2⟩
  · rw [List.map_cons]
    refine List.pairwise_cons.2 ⟨fun p hp2 => ?_, h.up⟩
    obtain ⟨y, hy, rfl⟩ := List.mem_map.1 hp2
    obtain ⟨q, hq, e⟩ := h.at_ y hy
    rw [ltP_iff]
    unfold orderL
    rw [e, pd_fit hf]
    exact cmpParts_append _ _ hq
  · rcases List.mem_cons.1 hy with rfl | hy
    · exact ⟨[], hp⟩
    · obtain ⟨q, _, e⟩ := hsub y hy
      exact ⟨q, e⟩
/-- Behind what came with names ahead, what comes with a name behind. -/
theorem NewI.app {d : List UInt8} {a b : List Itm} (ha : NewI d a) (hb : NewI d b) (h : ∀ x ∈ a, ∀ y ∈ b, ltP x.1 y.1 = true) : NewI d (a ++ b) := by
  refine ⟨fun x hx => (List.mem_append.1 hx).elim (ha.ok x) (hb.ok x), fun x hx => (List.mem_append.1 hx).elim (ha.at_ x) (hb.at_ x), fun x hx => ?_, ?_⟩
  · rcases List.mem_append.1 hx with hx | hx
    · exact (ha.dir x hx).imp id fun ⟨y, hy, e⟩ => ⟨y, List.mem_append_left _ hy, e⟩
    · exact (hb.dir x hx).imp id fun ⟨y, hy, e⟩ => ⟨y, List.mem_append_right _ hy, e⟩
  · rw [List.map_append]
    refine List.pairwise_append.2 ⟨ha.up, hb.up, fun p hp q hq => ?_⟩
    obtain ⟨x, hx, rfl⟩ := List.mem_map.1 hp
    obtain ⟨y, hy, rfl⟩ := List.mem_map.1 hq
    exact h x hx y hy
theorem NewI.nil (d : List UInt8) : NewI d [] := ⟨by simp, by simp, by simp, by simp [upT]⟩

/-- How many bytes a file brings. -/
theorem partsC_size {o : List Snp} : ∀ (ps : List Prt) (acc : List UInt8) (s : Nat), (partsC o ps acc s).2.2 = 0 → (∀ p ∈ ps, 0 ≤ p.2) → ((partsC o ps acc s).1.length : Int) = acc.length + wholeP ps ∧ (partsC o ps acc s).2.1 + acc.length = s + (partsC o ps acc s).1.length ∧ (s ≤ 65536 → (partsC o ps acc s).2.1 ≤ 65536)
  | [], acc, s, _, _ => by simp [partsC, wholeP]
  | p :: ps, acc, s, h, hp => by
    unfold partsC at h ⊢
    by_cases h1 : loadC o p.1 1 ≠ 0
    · rw [if_pos h1] at h; exact absurd h h1
    · rw [if_neg h1] at h ⊢
      by_cases h2 : ((nodeC o p.1).data.length : Int) ≠ p.2 ∨ 65536 < s + (nodeC o p.1).data.length
      · rw [if_pos h2] at h; cases h
      · rw [if_neg h2] at h ⊢
        obtain ⟨h3, h4, h5⟩ := partsC_size ps _ _ h (fun q hq => hp q (List.mem_cons_of_mem _ hq))
        have h6 : ((nodeC o p.1).data.length : Int) = p.2 := Classical.not_not.1 (fun e => h2 (.inl e))
        have h7 : ¬ 65536 < s + (nodeC o p.1).data.length := fun e => h2 (.inr e)
        rw [List.length_append] at h3 h4
        have hw : wholeP (p :: ps) = p.2 + wholeP ps := by simp [wholeP]
        exact ⟨by rw [hw]; omega, by omega, fun _ => h5 (by omega)⟩
theorem fileC_size {o : List Snp} {key : List UInt8} {s : Nat} (h : (fileC o key s).2.2 = 0) : (fileC o key s).1.length ≤ 32768 ∧ (fileC o key s).2.1 = s + (fileC o key s).1.length ∧ (s ≤ 65536 → (fileC o key s).2.1 ≤ 65536) := by
  unfold fileC at h ⊢
  by_cases h1 : loadC o key 2 ≠ 0
  · rw [if_pos h1] at h; exact absurd h h1
  · rw [if_neg h1] at h ⊢
    obtain ⟨h2, h3, -⟩ := loadC_ok (Classical.not_not.1 h1)
    have hfp : FitFile (nodeC o key).parts := by
      rcases h2 with h2 | h2 | h2
      · rw [h2.1] at h3; cases h3
      · exact h2.2.2.2
      · rw [h2.1] at h3; cases h3
    have hpos : ∀ p ∈ (nodeC o key).parts, 0 ≤ p.2 := fun p hp => by
      have := hfp.ok p hp
      simp only [partOk, Bool.and_eq_true, decide_eq_true_eq] at this
      omega
    obtain ⟨h4, h5, h6⟩ := partsC_size _ [] s h hpos
    have h7 := hfp.whole
    simp only [List.length_nil] at h4 h5
    exact ⟨by omega, by omega, h6⟩

/-- A step that brings items, where it is told. -/
def Brings (d : List UInt8) (st : StC) (r : StC × Int) : Prop := r.2 = 0 → ∃ new, r.1.1 = st.1 ++ new ∧ NewI d new ∧ r.1.2 = st.2 + sizeT new ∧ (st.2 ≤ 65536 → r.1.2 ≤ 65536) ∧ (st.1.length ≤ 60 → r.1.1.length ≤ 60)
theorem entC1_new {o : List Snp} {rec : List UInt8 → List UInt8 → StC → StC × Int} {d : List UInt8} {e : Ent} {st : StC} (hd : d = [] ∨ fitB d = true) (he : entOk e = true)
    (hrec : ∀ st', fitB (atD d ++ e.1) = true → deepD (atD d ++ e.1) = deepD d + 1 → Brings (atD d ++ e.1) st' (rec e.2.2.2 (atD d ++ e.1) st')) (h : (entC1 o rec d e st).2 = 0) :
    ∃ new, (entC1 o rec d e st).1.1 = st.1 ++ new ∧ NewI d new ∧ (∀ y ∈ new, ∃ q, partsL y.1 = pdD d ++ e.1 :: q) ∧ (entC1 o rec d e st).1.2 = st.2 + sizeT new ∧ (st.2 ≤ 65536 → (entC1 o rec d e st).1.2 ≤ 65536) ∧ (st.1.length ≤ 60 → (entC1 o rec d e st).1.1.length ≤ 60) := by
  obtain ⟨hk, hl, hn⟩ := entOk_parts he
  unfold entC1 at h ⊢
  by_cases h1 : 8 ≤ (atD d ++ e.1).count 47
  · rw [if_pos h1] at h; cases h
  rw [if_neg h1] at h ⊢
  by_cases h2 : 60 ≤ st.1.length
  · rw [if_pos h2] at h; cases h
  rw [if_neg h2] at h ⊢
  obtain ⟨hf, hdx, hdp⟩ := at_fit hd hn (by omega)
  by_cases h3 : e.2.1 = 3
  · rw [if_pos h3] at h ⊢
    obtain ⟨new, e1, e2, e3, e4, e5⟩ := hrec _ hf hdp h
    obtain ⟨a1, a2⟩ := NewI.one (x := (atD d ++ e.1, true, false, [])) hd hn rfl hf hdx rfl (by simp) e2 (.inr rfl)
    refine ⟨_, by rw [e1, List.append_assoc]; rfl, a1, a2, ?_, e4, fun hs => e5 (by rw [List.length_append]; simp; omega)⟩
    rw [e3, sizeT_cons]; simp
  · rw [if_neg h3] at h ⊢
    obtain ⟨b1, b2, b3⟩ := fileC_size h
    obtain ⟨a1, a2⟩ := NewI.one (x := (atD d ++ e.1, false, e.2.2.1, (fileC o e.2.2.2 st.2).1)) hd hn rfl hf hdx rfl b1 (NewI.nil _) (.inl rfl)
    refine ⟨_, rfl, a1, a2, ?_, b3, fun hs => by simp; omega⟩
    rw [sizeT_cons]
    simp only [sizeT, List.map_nil, List.sum_nil, Nat.add_zero]
    exact b2
theorem entsC_new {o : List Snp} {rec : List UInt8 → List UInt8 → StC → StC × Int} {d : List UInt8} (hd : d = [] ∨ fitB d = true)
    (hrec : ∀ (key p : List UInt8) st', fitB p = true → deepD p = deepD d + 1 → Brings p st' (rec key p st')) : ∀ (es : List Ent) (st : StC), (∀ e ∈ es, entOk e = true) → risesE es → (entsC o rec d es st).2 = 0 →
    ∃ new, (entsC o rec d es st).1.1 = st.1 ++ new ∧ NewI d new ∧ (∀ y ∈ new, ∃ e ∈ es, ∃ q, partsL y.1 = pdD d ++ e.1 :: q) ∧ (entsC o rec d es st).1.2 = st.2 + sizeT new ∧ (st.2 ≤ 65536 → (entsC o rec d es st).1.2 ≤ 65536) ∧ (st.1.length ≤ 60 → (entsC o rec d es st).1.1.length ≤ 60)
  | [], st, _, _, _ => ⟨[], by simp [entsC], NewI.nil _, by simp, by simp [entsC, sizeT], fun h => h, fun h => h⟩
  | e :: es, st, hok, hr, h => by
    unfold entsC at h ⊢
    by_cases h1 : (entC1 o rec d e st).2 ≠ 0
    · rw [if_pos h1] at h; exact absurd h h1
    rw [if_neg h1] at h ⊢
    obtain ⟨n1, a1, a2, a3, a4, a5, a6⟩ := entC1_new hd (hok e List.mem_cons_self) (fun st' hf hdp => hrec e.2.2.2 _ st' hf hdp) (Classical.not_not.1 h1)
    unfold risesE at hr
    rw [List.map_cons, List.pairwise_cons] at hr
    obtain ⟨n2, b1, b2, b3, b4, b5, b6⟩ := entsC_new hd hrec es _ (fun x hx => hok x (List.mem_cons_of_mem _ hx)) hr.2 h
    refine ⟨n1 ++ n2, by rw [b1, a1, List.append_assoc], a2.app b2 fun x hx y hy => ?_, fun y hy => ?_, by rw [b4, a4, sizeT_app]; omega, fun hs => b5 (a5 hs), fun hs => b6 (a6 hs)⟩
    · obtain ⟨q1, e1⟩ := a3 x hx
      obtain ⟨e', he', q2, e2⟩ := b3 y hy
      rw [ltP_iff]
      unfold orderL
      rw [e1, e2]
      exact cmp_first _ _ _ (hr.1 _ (List.mem_map.2 ⟨e', he', rfl⟩))
    · rcases List.mem_append.1 hy with hy | hy
      · obtain ⟨q, hq⟩ := a3 y hy
        exact ⟨e, List.mem_cons_self, q, hq⟩
      · obtain ⟨e', he', q, hq⟩ := b3 y hy
        exact ⟨e', List.mem_cons_of_mem _ he', q, hq⟩
theorem dirC_new {o : List Snp} : ∀ (n : Nat) (key d : List UInt8) (st : StC), (d = [] ∨ fitB d = true) → Brings d st (dirC o n key d st)
  | 0, _, _, _, _ => fun h => by cases h
  | n + 1, key, d, st, hd => by
    intro h
    unfold dirC at h ⊢
    by_cases h1 : loadC o key 3 ≠ 0
    · rw [if_pos h1] at h; exact absurd h h1
    rw [if_neg h1] at h ⊢
    obtain ⟨h2, h3, -⟩ := loadC_ok (Classical.not_not.1 h1)
    have hfd : FitDir (nodeC o key).ents := by
      rcases h2 with h2 | h2 | h2
      · rw [h2.1] at h3; cases h3
      · rw [h2.1] at h3; cases h3
      · exact h2.2.2.2
    obtain ⟨new, a1, a2, _, a4, a5, a6⟩ := entsC_new hd (fun key p st' hf _ => dirC_new n key p st' (.inr hf)) _ st hfd.ok hfd.rises h
    exact ⟨new, a1, a2, a4, a5, a6⟩
/-- A tree that is told can be. -/
theorem told_fit {o : List Snp} {n : Nat} {key : List UInt8} (h : (dirC o n key [] ([], 0)).2 = 0) : FitT (dirC o n key [] ([], 0)).1.1 := by
  obtain ⟨new, e1, e2, e3, e4, e5⟩ := dirC_new n key [] ([], 0) (.inl rfl) h
  rw [List.nil_append] at e1
  rw [e1] at e5 ⊢
  have hsz := e4 (by simp)
  rw [e3] at hsz
  refine ⟨by simpa using e5 (by simp), e2.up, fun x hx => ?_, by simpa using hsz⟩
  obtain ⟨h1, h2, h3⟩ := e2.ok x hx
  unfold okT
  rw [h1, h2, decide_eq_true h3]
  simp only [Bool.not_false, Bool.true_and]
  unfold underT
  rcases e2.dir x hx with e | ⟨y, hy, ey, hyd⟩
  · rw [e]; simp
  · have hf := findT_of (l := new) e2.up hy
    rw [ey] at hf
    rw [hf]
    show (_ || y.2.1) = true
    rw [hyd]
    simp
end Go.Proofs.YtaompdnnkfmjhaaGreatDoor
