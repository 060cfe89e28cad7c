/- A tree's nodes; what its objects are, and that a key is one tree's: plain. -/
import Derived.Test.YtaompdnnkfmjhaaGreatDoorJCdcPlain
import Derived.Test.YtaompdnnkfmjhaaGreatDoorJNodePlain
import Derived.Test.YtaompdnnkfmjhaaGreatDoorJKSet
namespace Go.Proofs.YtaompdnnkfmjhaaGreatDoor

noncomputable def nodesF (ps : List (List UInt8)) : List Nod := ps.map pieceN ++ [fileN ps]
section
variable (pc : List UInt8 → List (List UInt8)) (items : List Itm)
/-- A directory's nodes, in the order in which they are written. -/
noncomputable def nodesD : Nat → List UInt8 → List Nod
  | 0, _ => [⟨3, [], [], []⟩]
  | n + 1, d => (inD items d).flatMap (fun x => if x.2.1 = true then nodesD n x.1 else nodesF (pc x.2.2.2)) ++ [dirN pc items (n + 1) d]
end
/-- The nodes of some of a directory's items. -/
noncomputable def nodesS (pc : List UInt8 → List (List UInt8)) (items : List Itm) (n : Nat) (l : List Itm) : List Nod := l.flatMap (fun x => if x.2.1 = true then nodesD pc items n x.1 else nodesF (pc x.2.2.2))
theorem nodesD_succ (pc : List UInt8 → List (List UInt8)) (items : List Itm) (n : Nat) (d : List UInt8) : nodesD pc items (n + 1) d = nodesS pc items n (inD items d) ++ [dirN pc items (n + 1) d] := rfl
theorem nodesS_snoc (pc : List UInt8 → List (List UInt8)) (items : List Itm) (n : Nat) (l : List Itm) (x : Itm) : nodesS pc items n (l ++ [x]) = nodesS pc items n l ++ if x.2.1 = true then nodesD pc items n x.1 else nodesF (pc x.2.2.2) := by
  unfold nodesS; rw [List.flatMap_append]; simp
noncomputable def rawsN (l : List Nod) : List (List UInt8) := l.map writeN
/-- Two that are unlike have one sum. -/
def ClashP (l : List (List UInt8)) : Prop := ∃ a ∈ l, ∃ b ∈ l, a ≠ b ∧ shaF a = shaF b

section
variable {pc : List UInt8 → List (List UInt8)} {items : List Itm}
theorem fileO_fold (o : List Snp) (ps : List (List UInt8)) : fileO o ps = (nodesF ps).foldl putN o := by
  unfold fileO nodesF
  rw [List.foldl_append, List.foldl_map]; rfl
theorem dirO_fold : ∀ (n : Nat) (o : List Snp) (d : List UInt8), dirO pc items n o d = (nodesD pc items n d).foldl putN o
  | 0, o, d => rfl
  | n + 1, o, d => by
    rw [dirO_succ, nodesD_succ, List.foldl_append]
    show putN _ _ = putN _ _
    congr 1
    unfold someO nodesS
    induction inD items d generalizing o with
    | nil => rfl
    | cons x l ih =>
      rw [List.foldl_cons, ih, List.flatMap_cons, List.foldl_append]
      congr 1
      split
      · exact dirO_fold n o x.1
      · exact fileO_fold o _

/-! Objects that nodes make. -/
theorem putN_mem {o : List Snp} {n : Nod} {y : Snp} (h : y ∈ putN o n) : y = (keyN n, writeN n) ∨ y ∈ o := by
  unfold putN addO at h
  split at h
  · exact .inr h
  · exact mem_insO.1 h
theorem putN_old {o : List Snp} {n : Nod} {y : Snp} (h : y ∈ o) : y ∈ putN o n := by
  unfold putN addO
  split
  · exact h
  · exact mem_insO.2 (.inr h)
theorem putN_key {o : List Snp} {n : Nod} (hu : upS (namesR o)) (hn : FitN n) : keyN n ∈ namesR (putN o n) := by
  unfold putN addO
  split
  · rename_i h
    rcases h with h | h
    · simp only at h
      rw [findR_is hu] at h
      simpa using h
    · exact absurd (keyN_len hn) h
  · exact List.mem_map.2 ⟨_, mem_insO.2 (.inl rfl), rfl⟩
theorem fold_fit : ∀ (l : List Nod) {o : List Snp}, fit5 (namesR o) = true → fit5 (namesR (l.foldl putN o)) = true
  | [], _, h => h
  | _ :: l, _, h => fold_fit l (addO_fit h)
theorem fold_mem : ∀ (l : List Nod) {o : List Snp} {y : Snp}, y ∈ l.foldl putN o → (∃ n ∈ l, y = (keyN n, writeN n)) ∨ y ∈ o
  | [], _, _, h => .inr h
  | n :: l, o, y, h => by
    rcases fold_mem l h with ⟨m, hm, e⟩ | h
    · exact .inl ⟨m, List.mem_cons_of_mem _ hm, e⟩
    · rcases putN_mem h with e | h
      · exact .inl ⟨n, List.mem_cons_self, e⟩
      · exact .inr h
theorem fold_old : ∀ (l : List Nod) {o : List Snp} {y : Snp}, y ∈ o → y ∈ l.foldl putN o
  | [], _, _, h => h
  | _ :: l, _, _, h => fold_old l (putN_old h)
theorem names_mono {o o' : List Snp} (h : ∀ y ∈ o, y ∈ o') {k : List UInt8} (hk : k ∈ namesR o) : k ∈ namesR o' := by
  obtain ⟨y, hy, rfl⟩ := List.mem_map.1 hk
  exact List.mem_map.2 ⟨y, h y hy, rfl⟩
theorem fold_key : ∀ (l : List Nod) {o : List Snp}, fit5 (namesR o) = true → (∀ n ∈ l, FitN n) → ∀ n ∈ l, keyN n ∈ namesR (l.foldl putN o)
  | m :: l, o, ho, hf, n, hn => by
    rcases List.mem_cons.1 hn with rfl | hn
    · exact names_mono (fun y hy => fold_old l hy) (putN_key (fit5_up12 ho) (hf n List.mem_cons_self))
    · exact fold_key l (addO_fit ho) (fun x hx => hf x (List.mem_cons_of_mem _ hx)) n hn

/-! No two of one sum. -/
theorem keyN_eq {n : Nod} (h : FitN n) : keyN n = shaF (writeN n) := by
  unfold keyN; rw [if_pos (fitN_iff.2 h)]
theorem write_inj {n m : Nod} (hn : FitN n) (hm : FitN m) (h : writeN n = writeN m) : n = m := by
  have h1 := read_write hn
  rw [h, read_write hm] at h1
  injection h1 with h1
  exact h1.symm
/-- One key, one node. -/
def OneK (l : List Nod) : Prop := ∀ a ∈ l, ∀ b ∈ l, keyN a = keyN b → a = b
theorem one_of_clash {l : List Nod} (hf : ∀ n ∈ l, FitN n) (h : ¬ ClashP (rawsN l)) : OneK l := by
  intro a ha b hb e
  refine Classical.byContradiction fun hne => h ⟨writeN a, List.mem_map.2 ⟨a, ha, rfl⟩, writeN b, List.mem_map.2 ⟨b, hb, rfl⟩, fun e2 => hne (write_inj (hf a ha) (hf b hb) e2), ?_⟩
  rw [← keyN_eq (hf a ha), ← keyN_eq (hf b hb), e]
theorem fold_find {l : List Nod} (hf : ∀ n ∈ l, FitN n) (h1 : OneK l) {n : Nod} (hn : n ∈ l) : (keyN n, writeN n) ∈ l.foldl putN [] := by
  obtain ⟨y, hy, e⟩ := List.mem_map.1 (fold_key l (o := []) rfl hf n hn)
  rcases fold_mem l hy with ⟨m, hm, e2⟩ | h
  · subst e2
    have := h1 m hm n hn e
    subst this
    exact hy
  · cases h

/-! A tree's nodes. -/
theorem nodesF_fit (h : Ready pc items) {x : Itm} (hx : x ∈ items) : ∀ n ∈ nodesF (pc x.2.2.2), FitN n := by
  intro n hn
  unfold nodesF at hn
  rcases List.mem_append.1 hn with hn | hn
  · obtain ⟨s, hs, rfl⟩ := List.mem_map.1 hn
    obtain ⟨h1, h2⟩ := h.each x hx s hs
    exact fit_piece h1 h2
  · rw [List.mem_singleton.1 hn]; exact h.file hx
theorem nodesD_fit (h : Ready pc items) : ∀ (n : Nat) (d : List UInt8), ∀ m ∈ nodesD pc items n d, FitN m
  | 0, d, m, hm => by rw [List.mem_singleton.1 hm]; exact h.dir 0 d
  | n + 1, d, m, hm => by
    rw [nodesD_succ] at hm
    rcases List.mem_append.1 hm with hm | hm
    · obtain ⟨x, hx, hm⟩ := List.mem_flatMap.1 hm
      obtain ⟨hx1, -⟩ := mem_inD.1 hx
      split at hm
      · exact nodesD_fit h n x.1 m hm
      · exact nodesF_fit h hx1 m hm
    · rw [List.mem_singleton.1 hm]; exact h.dir (n + 1) d
theorem nodesD_top (n : Nat) (d : List UInt8) : dirN pc items n d ∈ nodesD pc items n d := by
  cases n with
  | zero => exact List.mem_singleton.2 rfl
  | succ n => rw [nodesD_succ]; exact List.mem_append_right _ (List.mem_singleton.2 rfl)
theorem nodesD_sub {n : Nat} {d : List UInt8} {x : Itm} (hx : x ∈ inD items d) : ∀ m ∈ (if x.2.1 = true then nodesD pc items n x.1 else nodesF (pc x.2.2.2)), m ∈ nodesD pc items (n + 1) d := by
  intro m hm
  rw [nodesD_succ]
  exact List.mem_append_left _ (List.mem_flatMap.2 ⟨x, hx, hm⟩)
theorem nodesD_dir {n : Nat} {d : List UInt8} {x : Itm} (hx : x ∈ inD items d) (hd : x.2.1 = true) : ∀ m ∈ nodesD pc items n x.1, m ∈ nodesD pc items (n + 1) d := by
  have := nodesD_sub (pc := pc) (n := n) hx
  rwa [if_pos hd] at this
theorem nodesD_file {n : Nat} {d : List UInt8} {x : Itm} (hx : x ∈ inD items d) (hd : x.2.1 = false) : ∀ m ∈ nodesF (pc x.2.2.2), m ∈ nodesD pc items (n + 1) d := by
  have := nodesD_sub (pc := pc) (n := n) hx
  rwa [if_neg (by rw [hd]; simp)] at this
/-- The keys that a node of the tree's names are its nodes' keys. -/
theorem nodesF_kids {ps : List (List UInt8)} {m : Nod} (hm : m ∈ nodesF ps) {k : List UInt8} (hk : k ∈ kidsN m) : ∃ q ∈ nodesF ps, keyN q = k := by
  unfold kidsN at hk
  obtain ⟨hk, -⟩ := setOf_mem.1 hk
  unfold nodesF at hm
  rcases List.mem_append.1 hm with hm | hm
  · obtain ⟨s, hs, rfl⟩ := List.mem_map.1 hm
    simp [kidsL] at hk
  · rw [List.mem_singleton.1 hm] at hk
    simp only [kidsL, fileN, List.map_map, List.map_nil, List.append_nil] at hk
    obtain ⟨s, hs, rfl⟩ := List.mem_map.1 hk
    exact ⟨pieceN s, List.mem_append_left _ (List.mem_map.2 ⟨s, hs, rfl⟩), rfl⟩
theorem nodesD_kids : ∀ (n : Nat) (d : List UInt8) {m : Nod}, m ∈ nodesD pc items n d → ∀ {k : List UInt8}, k ∈ kidsN m → ∃ q ∈ nodesD pc items n d, keyN q = k
  | 0, d, m, hm, k, hk => by
    rw [List.mem_singleton.1 hm] at hk
    unfold kidsN at hk
    have := (setOf_mem.1 hk).1
    simp [kidsL] at this
  | n + 1, d, m, hm, k, hk => by
    rw [nodesD_succ] at hm
    rcases List.mem_append.1 hm with hm | hm
    · obtain ⟨x, hx, hm⟩ := List.mem_flatMap.1 hm
      cases hd : x.2.1 with
      | true =>
        rw [hd, if_pos rfl] at hm
        obtain ⟨q, hq, e⟩ := nodesD_kids n x.1 hm hk
        exact ⟨q, nodesD_dir hx hd q hq, e⟩
      | false =>
        rw [hd, if_neg (by simp)] at hm
        obtain ⟨q, hq, e⟩ := nodesF_kids hm hk
        exact ⟨q, nodesD_file hx hd q hq, e⟩
    · rw [List.mem_singleton.1 hm] at hk
      unfold kidsN at hk
      obtain ⟨hk, -⟩ := setOf_mem.1 hk
      simp only [kidsL, dirN, List.map_map, List.map_nil, List.nil_append] at hk
      obtain ⟨x, hx, rfl⟩ := List.mem_map.1 hk
      cases hd : x.2.1 with
      | true => exact ⟨_, nodesD_dir hx hd _ (nodesD_top n x.1), by simp [entK, hd]⟩
      | false => exact ⟨_, nodesD_file hx hd _ (List.mem_append_right _ (List.mem_singleton.2 rfl)), by simp [entK, hd]⟩
end

/-! One key, one tree. -/
/-- What is below a directory, by the names on from it. -/
def relD (items : List Itm) : Nat → List UInt8 → List (List (List UInt8) × (Bool × Bool × List UInt8))
  | 0, _ => []
  | n + 1, d => (inD items d).flatMap (fun x => ([lastN x.1], x.2) :: if x.2.1 = true then (relD items n x.1).map (fun r => (lastN x.1 :: r.1, r.2)) else [])
section
variable {pc : List UInt8 → List (List UInt8)} {items items' : List Itm}
theorem map_pieces {ps qs : List (List UInt8)} {l : List Nod} (h1 : OneK l) (hp : ∀ s ∈ ps, pieceN s ∈ l) (hq : ∀ s ∈ qs, pieceN s ∈ l) (h : ps.map partN = qs.map partN) : ps = qs := by
  induction ps generalizing qs with
  | nil => cases qs with
    | nil => rfl
    | cons _ _ => cases h
  | cons s ps ih =>
    cases qs with
    | nil => cases h
    | cons t qs =>
      simp only [List.map_cons, List.cons.injEq] at h
      have h2 : keyN (pieceN s) = keyN (pieceN t) := congrArg Prod.fst h.1
      have h3 := h1 _ (hp s List.mem_cons_self) _ (hq t List.mem_cons_self) h2
      have h4 : s = t := congrArg Nod.data h3
      rw [h4, ih (fun x hx => hp x (List.mem_cons_of_mem _ hx)) (fun x hx => hq x (List.mem_cons_of_mem _ hx)) h.2]
theorem file_inj {ps qs : List (List UInt8)} {l : List Nod} (h1 : OneK l) (hp : ∀ m ∈ nodesF ps, m ∈ l) (hq : ∀ m ∈ nodesF qs, m ∈ l) (h : keyN (fileN ps) = keyN (fileN qs)) : ps = qs := by
  have h2 := h1 _ (hp _ (List.mem_append_right _ (List.mem_singleton.2 rfl))) _ (hq _ (List.mem_append_right _ (List.mem_singleton.2 rfl))) h
  exact map_pieces h1 (fun s hs => hp _ (List.mem_append_left _ (List.mem_map.2 ⟨s, hs, rfl⟩))) (fun s hs => hq _ (List.mem_append_left _ (List.mem_map.2 ⟨s, hs, rfl⟩))) (congrArg Nod.parts h2)
theorem dirN_ents_zero {d : List UInt8} (n : Nat) (h : (dirN pc items n d).ents = []) : relD items n d = [] := by
  cases n with
  | zero => rfl
  | succ n =>
    have : inD items d = [] := List.map_eq_nil_iff.1 h
    unfold relD
    rw [this]; rfl
theorem flatMap_congr2 {α β γ δ : Type} {f : α → γ} {g : β → γ} {F : α → List δ} {G : β → List δ} : ∀ {l : List α} {m : List β}, l.map f = m.map g → (∀ x ∈ l, ∀ y ∈ m, f x = g y → F x = G y) → l.flatMap F = m.flatMap G
  | [], [], _, _ => rfl
  | [], _ :: _, h, _ => by cases h
  | _ :: _, [], h, _ => by cases h
  | x :: l, y :: m, h, hh => by
    simp only [List.map_cons, List.cons.injEq] at h
    rw [List.flatMap_cons, List.flatMap_cons, hh x List.mem_cons_self y List.mem_cons_self h.1, flatMap_congr2 h.2 (fun a ha b hb => hh a (List.mem_cons_of_mem _ ha) b (List.mem_cons_of_mem _ hb))]
theorem one_tree {L : List Nod} (h1 : OneK L) (hr : Ready pc items) (hr' : Ready pc items') : ∀ (n n' : Nat) (d d' : List UInt8), (∀ m ∈ nodesD pc items n d, m ∈ L) → (∀ m ∈ nodesD pc items' n' d', m ∈ L) →
    keyN (dirN pc items n d) = keyN (dirN pc items' n' d') → relD items n d = relD items' n' d' := by
  intro n
  induction n with
  | zero =>
    intro n' d d' hn hn' h
    have h2 := h1 _ (hn _ (nodesD_top 0 d)) _ (hn' _ (nodesD_top n' d')) h
    exact (dirN_ents_zero n' (by rw [← h2]; rfl)).symm
  | succ n ih =>
    intro n' d d' hn hn' h
    have h2 := h1 _ (hn _ (nodesD_top (n + 1) d)) _ (hn' _ (nodesD_top n' d')) h
    cases n' with
    | zero => exact dirN_ents_zero (n + 1) (by rw [h2]; rfl)
    | succ n' =>
      have h3 : (inD items d).map (entK pc (fun p => keyN (dirN pc items n p))) = (inD items' d').map (entK pc (fun p => keyN (dirN pc items' n' p))) := congrArg Nod.ents h2
      unfold relD
      refine flatMap_congr2 h3 fun x hx y hy e => ?_
      have hxi := (mem_inD.1 hx).1
      have hyi := (mem_inD.1 hy).1
      have ho := (hr.item hxi).2.1
      have ho' := (hr'.item hyi).2.1
      have hfx := hr.flat x hxi
      have hfy := hr'.flat y hyi
      have sx := fun m hm => hn m (nodesD_sub (n := n) hx m hm)
      have sy := fun m hm => hn' m (nodesD_sub (n := n') hy m hm)
      clear hx hy hxi hyi h h2 h3
      obtain ⟨p, b, ex, s⟩ := x
      obtain ⟨q, b', ex', s'⟩ := y
      simp only [entK, Prod.mk.injEq] at e
      obtain ⟨e1, e2, e3, e4⟩ := e
      simp only at hfx hfy sx sy ⊢
      cases b <;> cases b' <;> simp only [if_true, if_false, Bool.false_eq_true] at e2 e4 sx sy ⊢
      · have := file_inj h1 sx sy e4
        have hs : s = s' := by rw [← hfx, ← hfy, this]
        rw [e1, e3, hs]
      · exact absurd e2 (by decide)
      · exact absurd e2 (by decide)
      · have hrel := ih n' p q sx sy e4
        simp only [oddT, Bool.true_and, Bool.or_eq_false_iff, Bool.not_eq_false', beq_iff_eq] at ho ho'
        rw [hrel, e1, e3, ho.1, ho'.1]

/-- A path's names, none of the topmost directory. -/
def pdD (d : List UInt8) : List (List UInt8) := if d = [] then [] else partsL d
theorem pd_fit {p : List UInt8} (h : fitB p = true) : pdD p = partsL p := by
  unfold pdD
  rw [if_neg]
  rintro rfl
  simp [fitB, splitL, partsL, nameB] at h
theorem pd_step {p : List UInt8} (h : fitB p = true) : partsL p = pdD (dirL p) ++ [lastN p] := by
  rcases parts_of_dir h with ⟨h1, h2⟩ | ⟨h1, h2, h3⟩
  · rw [h1, h2]; rfl
  · rw [pd_fit h2, h3]
theorem parts_inj {p q : List UInt8} (h : partsL p = partsL q) : p = q := by rw [← joinS_parts p, h, joinS_parts]
theorem rel_sound (hr : Ready pc items) : ∀ (n : Nat) (d : List UInt8) {r : List (List UInt8) × (Bool × Bool × List UInt8)}, r ∈ relD items n d → ∃ x ∈ items, partsL x.1 = pdD d ++ r.1 ∧ r.2 = x.2
  | 0, _, _, h => by cases h
  | n + 1, d, r, h => by
    unfold relD at h
    obtain ⟨x, hx, h⟩ := List.mem_flatMap.1 h
    obtain ⟨hx1, hx2⟩ := mem_inD.1 hx
    have hf := (hr.item hx1).1
    have hp := pd_step hf
    rw [hx2] at hp
    rcases List.mem_cons.1 h with rfl | h
    · exact ⟨x, hx1, hp, rfl⟩
    · split at h
      · obtain ⟨r', hr', rfl⟩ := List.mem_map.1 h
        obtain ⟨y, hy, e1, e2⟩ := rel_sound hr n x.1 hr'
        refine ⟨y, hy, ?_, e2⟩
        rw [e1, pd_fit hf, hp]; simp
      · cases h
theorem rel_child (hr : Ready pc items) {x y : Itm} (hx : x ∈ items) (hd : dirL x.1 = y.1) (hy : y.2.1 = true) (hyf : fitB y.1 = true) : ∀ (n : Nat) (d : List UInt8) (q : List (List UInt8)), pdD d ++ q = partsL y.1 → q.length + 1 ≤ n → (q, y.2) ∈ relD items n d → (q ++ [lastN x.1], x.2) ∈ relD items n d
  | 0, _, _, _, h, _ => by omega
  | n + 1, d, q, hq, hl, h => by
    unfold relD at h ⊢
    obtain ⟨z, hz, h⟩ := List.mem_flatMap.1 h
    refine List.mem_flatMap.2 ⟨z, hz, ?_⟩
    obtain ⟨hz1, hz2⟩ := mem_inD.1 hz
    have hf := (hr.item hz1).1
    have hp := pd_step hf
    rw [hz2] at hp
    rcases List.mem_cons.1 h with h | h
    · injection h with e1 e2
      subst e1
      have e3 : z.1 = y.1 := parts_inj (by rw [hp, hq])
      rw [e2] at hy
      rw [if_pos hy]
      refine List.mem_cons_of_mem _ (List.mem_map.2 ⟨([lastN x.1], x.2), ?_, rfl⟩)
      cases n with
      | zero => simp at hl
      | succ n =>
        unfold relD
        exact List.mem_flatMap.2 ⟨x, mem_inD.2 ⟨hx, by rw [hd, e3]⟩, List.mem_cons_self⟩
    · split at h
      · rename_i hzd
        obtain ⟨r', hr', e⟩ := List.mem_map.1 h
        injection e with e1 e2
        subst e1
        rw [if_pos hzd]
        refine List.mem_cons_of_mem _ (List.mem_map.2 ⟨(r'.1 ++ [lastN x.1], x.2), ?_, rfl⟩)
        refine rel_child hr hx hd hy hyf n z.1 r'.1 ?_ (by simpa using hl) (by rw [← e2]; exact hr')
        rw [pd_fit hf, hp, ← hq]; simp
      · cases h
theorem under_dir {p : List UInt8} (h : underT items p = true) (hd : dirL p ≠ []) : ∃ y ∈ items, y.1 = dirL p ∧ y.2.1 = true := by
  unfold underT at h
  rw [Bool.or_eq_true] at h
  rcases h with h | h
  · exact absurd (by simpa using h) hd
  · cases hf : findT items (dirL p) with
    | none => rw [hf] at h; cases h
    | some y =>
      rw [hf] at h
      obtain ⟨h1, h2⟩ := findT_mem hf
      exact ⟨y, h1, h2, h⟩
theorem rel_whole (hr : Ready pc items) : ∀ (j : Nat) (x : Itm), x ∈ items → (partsL x.1).length = j → (partsL x.1, x.2) ∈ relD items 9 []
  | 0, x, hx, hj => by
    have := (fit_parts (hr.item hx).1).2.2
    exact absurd (List.eq_nil_of_length_eq_zero hj) this
  | j + 1, x, hx, hj => by
    obtain ⟨hf, -, -, hu⟩ := hr.item hx
    have h8 := (fit_parts hf).1
    rcases parts_of_dir hf with ⟨h1, h2⟩ | ⟨h1, h2, h3⟩
    · rw [h2]
      unfold relD
      exact List.mem_flatMap.2 ⟨x, mem_inD.2 ⟨hx, h1⟩, List.mem_cons_self⟩
    · obtain ⟨y, hy, e1, e2⟩ := under_dir hu h1
      have hlen : (partsL y.1).length = j := by
        rw [h3, List.length_append, List.length_singleton] at hj
        rw [e1]; omega
      have ih := rel_whole hr j y hy hlen
      have := rel_child hr hx e1.symm e2 (by rw [e1]; exact h2) 9 [] (partsL y.1) (by simp [pdD]) (by omega) ih
      rw [h3, ← e1]
      exact this
theorem sorted_ext {α : Type} {R : α → α → Prop} (hi : ∀ a, ¬ R a a) (hs : ∀ a b, R a b → ¬ R b a) : ∀ {l m : List α}, l.Pairwise R → m.Pairwise R → (∀ x, x ∈ l ↔ x ∈ m) → l = m
  | [], [], _, _, _ => rfl
  | [], y :: m, _, _, h => by have := (h y).2 List.mem_cons_self; cases this
  | x :: l, [], _, _, h => by have := (h x).1 List.mem_cons_self; cases this
  | x :: l, y :: m, hl, hm, h => by
    rw [List.pairwise_cons] at hl hm
    have hxy : x = y := by
      rcases List.mem_cons.1 ((h x).1 List.mem_cons_self) with e | hx
      · exact e
      · rcases List.mem_cons.1 ((h y).2 List.mem_cons_self) with e | hy
        · exact e.symm
        · exact absurd (hm.1 x hx) (hs _ _ (hl.1 y hy))
    subst hxy
    congr 1
    refine sorted_ext hi hs hl.2 hm.2 fun z => ⟨fun hz => ?_, fun hz => ?_⟩
    · rcases List.mem_cons.1 ((h z).1 (List.mem_cons_of_mem _ hz)) with e | hz2
      · subst e; exact absurd (hl.1 z hz) (hi z)
      · exact hz2
    · rcases List.mem_cons.1 ((h z).2 (List.mem_cons_of_mem _ hz)) with e | hz2
      · subst e; exact absurd (hm.1 z hz) (hi z)
      · exact hz2
theorem tree_of_rel (hr : Ready pc items) (hr' : Ready pc items') (h : relD items 9 [] = relD items' 9 []) : items = items' := by
  have key : ∀ {a b : List Itm}, Ready pc a → Ready pc b → relD a 9 [] = relD b 9 [] → ∀ x, x ∈ a → x ∈ b := by
    intro a b ha hb e x hx
    have h1 := rel_whole ha _ x hx rfl
    rw [e] at h1
    obtain ⟨y, hy, e1, e2⟩ := rel_sound hb 9 [] h1
    have e3 : x.1 = y.1 := parts_inj (by simpa [pdD] using e1.symm)
    have : x = y := Prod.ext e3 e2
    rw [this]; exact hy
  refine sorted_ext (R := fun a b : Itm => ltP a.1 b.1 = true) (fun a e => by rw [ltP_irrefl] at e; cases e) (fun a b e e2 => by rw [ltP_asymm e] at e2; cases e2) (List.pairwise_map.1 hr.fit.up) (List.pairwise_map.1 hr'.fit.up) fun x => ⟨key hr hr' h x, key hr' hr h.symm x⟩
/-- Two trees have one key just if they are one, where no two of their nodes have one sum. -/
theorem unlike_keys (hr : Ready pc items) (hr' : Ready pc items') (hc : ¬ ClashP (rawsN (nodesD pc items 9 []) ++ rawsN (nodesD pc items' 9 []))) : keyN (dirN pc items 9 []) = keyN (dirN pc items' 9 []) ↔ items = items' := by
  constructor
  · intro h
    have h1 : OneK (nodesD pc items 9 [] ++ nodesD pc items' 9 []) := one_of_clash (fun n hn => (List.mem_append.1 hn).elim (nodesD_fit hr 9 [] n) (nodesD_fit hr' 9 [] n)) (by unfold rawsN at *; rw [List.map_append]; exact hc)
    exact tree_of_rel hr hr' (one_tree h1 hr hr' 9 9 [] [] (fun m hm => List.mem_append_left _ hm) (fun m hm => List.mem_append_right _ hm) h)
  · rintro rfl; rfl
end
end Go.Proofs.YtaompdnnkfmjhaaGreatDoor
