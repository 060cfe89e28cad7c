/- A tree's objects: plain. The reference Has of keys. The reference's sets of keys: a set and one more. A set of keys out of keys: by one more each, and sorted and without repeats. The keys that a node names: plain. -/
import Derived.Test.YtkejdbidomlonaaGreatDoorJTreePlain
import Derived.Test.YtkejdbidomlonaaGreatDoorJKeyNP
import Derived.Test.YtkejdbidomlonaaGreatDoorJKeysP
import Derived.Lib.SlicesCompact
import Derived.Test.YtkejdbidomlonaaGreatDoorJSnpPlain
namespace Go.Proofs.YtkejdbidomlonaaGreatDoor

/-- A path's last name. -/
def lastN (p : List UInt8) : List UInt8 := (partsL p).getLastD []
noncomputable def putN (o : List Snp) (n : Nod) : List Snp := addO o (keyN n, writeN n)
abbrev pieceN (s : List UInt8) : Nod := ⟨1, s, [], []⟩
noncomputable def partN (s : List UInt8) : Prt := (keyN (pieceN s), (s.length : Int))
noncomputable def fileN (ps : List (List UInt8)) : Nod := ⟨2, [], ps.map partN, []⟩
noncomputable def fileO (o : List Snp) (ps : List (List UInt8)) : List Snp := putN (ps.foldl (fun o s => putN o (pieceN s)) o) (fileN ps)
def inD (items : List Itm) (d : List UInt8) : List Itm := items.filter (fun x => dirL x.1 == d)
section
variable (pc : List UInt8 → List (List UInt8)) (items : List Itm)
noncomputable def entK (K : List UInt8 → List UInt8) (x : Itm) : Ent := (lastN x.1, if x.2.1 = true then 3 else 2, x.2.2.1, if x.2.1 = true then K x.1 else keyN (fileN (pc x.2.2.2)))
/-- A directory's node; n: 9 less its names. -/
noncomputable def dirN : Nat → List UInt8 → Nod
  | 0, _ => ⟨3, [], [], []⟩
  | n + 1, d => ⟨3, [], [], (inD items d).map (entK pc (fun p => keyN (dirN n p)))⟩
noncomputable def dirO : Nat → List Snp → List UInt8 → List Snp
  | 0, o, _ => putN o ⟨3, [], [], []⟩
  | n + 1, o, d => putN ((inD items d).foldl (fun o x => if x.2.1 = true then dirO n o x.1 else fileO o (pc x.2.2.2)) o) (dirN pc items (n + 1) d)
end
/-- Behind some of a directory's items. -/
noncomputable def someO (pc : List UInt8 → List (List UInt8)) (items : List Itm) (n : Nat) (o : List Snp) (l : List Itm) : List Snp :=
  l.foldl (fun o x => if x.2.1 = true then dirO pc items n o x.1 else fileO o (pc x.2.2.2)) o
theorem dirO_succ (pc : List UInt8 → List (List UInt8)) (items : List Itm) (n : Nat) (o : List Snp) (d : List UInt8) : dirO pc items (n + 1) o d = putN (someO pc items n o (inD items d)) (dirN pc items (n + 1) d) := rfl
theorem someO_snoc (pc : List UInt8 → List (List UInt8)) (items : List Itm) (n : Nat) (o : List Snp) (l : List Itm) (x : Itm) :
    someO pc items n o (l ++ [x]) = if x.2.1 = true then dirO pc items n (someO pc items n o l) x.1 else fileO (someO pc items n o l) (pc x.2.2.2) := by
  unfold someO; rw [List.foldl_append]; rfl

/-! Paths. -/
/-- How many names a directory has; none: the topmost. -/
def deepD (d : List UInt8) : Nat := if d = [] then 0 else (partsL d).length
theorem fit_parts {p : List UInt8} (h : fitB p = true) : (partsL p).length ≤ 8 ∧ (∀ x ∈ partsL p, nameB x = true) ∧ partsL p ≠ [] := by
  obtain ⟨h1, h2⟩ := (fitB_iff p).1 h
  exact ⟨h1, List.all_eq_true.1 h2, partsL_ne p⟩
theorem last_name {p : List UInt8} (h : fitB p = true) : nameB (lastN p) = true := by
  obtain ⟨h1, h2, h3⟩ := fit_parts h
  unfold lastN
  rw [List.getLastD_eq_getLast?, List.getLast?_eq_some_getLast h3]
  exact h2 _ (List.getLast_mem h3)
theorem partsL_name {n : List UInt8} (h : ∀ c ∈ n, c ≠ 47) : partsL n = [n] := by
  have h1 := partsL_depth n
  rw [List.count_eq_zero_of_not_mem (fun hm => h 47 hm rfl)] at h1
  have h2 := joinS_parts n
  match hp : partsL n, h1, h2 with
  | [a], _, h2 => rw [show a = n from h2]
theorem parts_of_dir {p : List UInt8} (h : fitB p = true) : (dirL p = [] ∧ partsL p = [lastN p]) ∨ (dirL p ≠ [] ∧ fitB (dirL p) = true ∧ partsL p = partsL (dirL p) ++ [lastN p]) := by
  rcases lastSlash p with ⟨-, hn⟩ | ⟨i, hi, -, he, ht⟩
  · have hp := partsL_name hn
    refine .inl ⟨dirL_noslash hn, ?_⟩
    unfold lastN
    rw [hp]; rfl
  · generalize p.take i = a at he
    generalize p.drop (i + 1) = t at he ht
    subst he
    clear hi
    obtain ⟨h1, h2⟩ := dirL_slash ht h
    have hp := partsL_snoc a t ht
    obtain ⟨h3, h4, _⟩ := fit_parts h
    rw [hp, List.length_append] at h3
    refine .inr ⟨by rw [h1]; exact h2, ?_, ?_⟩
    · rw [h1, fitB_iff, List.all_eq_true]
      exact ⟨by simp at h3; omega, fun x hx => h4 x (by rw [hp]; exact List.mem_append_left _ hx)⟩
    · rw [h1, hp]
      unfold lastN
      rw [hp]; simp
theorem deep_step {p : List UInt8} (h : fitB p = true) : deepD p = deepD (dirL p) + 1 ∧ deepD p ≤ 8 := by
  obtain ⟨h1, h2, h3⟩ := fit_parts h
  have hne : p ≠ [] := by rintro rfl; simp [fitB, splitL, partsL, nameB] at h
  have he : deepD p = (partsL p).length := by unfold deepD; rw [if_neg hne]
  refine ⟨?_, by rw [he]; exact h1⟩
  rw [he]
  rcases parts_of_dir h with ⟨h4, h5⟩ | ⟨h4, _, h5⟩
  · rw [h4, h5]; simp [deepD]
  · rw [h5]
    unfold deepD
    rw [if_neg h4]; simp
theorem cmp_snoc : ∀ (a : List (List UInt8)) (u v : List UInt8), cmpParts (a ++ [u]) (a ++ [v]) = -1 → u < v
  | [], u, v, h => by
    simp only [List.nil_append, cmpParts] at h
    split at h
    · assumption
    · split at h <;> simp at h
  | c :: a, u, v, h => by
    simp only [List.cons_append, cmpParts] at h
    rw [if_neg (List.lt_irrefl c), if_neg (List.lt_irrefl c)] at h
    exact cmp_snoc a u v h
theorem last_lt {p q : List UInt8} (hp : fitB p = true) (hq : fitB q = true) (hd : dirL p = dirL q) (h : ltP p q = true) : lastN p < lastN q := by
  have h1 := ltP_iff.1 h
  unfold orderL at h1
  rcases parts_of_dir hp with ⟨h4, h5⟩ | ⟨h4, _, h5⟩
  · rcases parts_of_dir hq with ⟨h6, h7⟩ | ⟨h6, _, h7⟩
    · rw [h5, h7] at h1
      exact cmp_snoc [] _ _ h1
    · exact absurd (hd ▸ h4) h6
  · rcases parts_of_dir hq with ⟨h6, h7⟩ | ⟨h6, _, h7⟩
    · exact absurd (hd ▸ h6) h4
    · rw [h5, h7, hd] at h1
      exact cmp_snoc _ _ _ h1

/-! Nodes that are fit. -/
theorem keyN_len {n : Nod} (h : FitN n) : (keyN n).length = 32 := by
  unfold keyN; rw [if_pos (fitN_iff.2 h)]; exact shaF_len _
theorem fit_piece {s : List UInt8} (h1 : 1 ≤ s.length) (h2 : s.length ≤ 4096) : FitN (pieceN s) :=
  .inl ⟨rfl, by intro h; simp only at h; rw [h] at h1; simp at h1, h2, rfl, rfl⟩
theorem whole_parts (ps : List (List UInt8)) : wholeP (ps.map partN) = (ps.flatten.length : Int) := by
  induction ps with
  | nil => rfl
  | cons p ps ih =>
    unfold wholeP at *
    rw [List.map_cons, List.map_cons, List.sum_cons, ih, List.flatten_cons, List.length_append]
    simp [partN]
theorem fit_file {ps : List (List UInt8)} (h1 : ∀ t ∈ ps, 1 ≤ t.length ∧ t.length ≤ 4096) (h2 : ps.length ≤ 1024) (h3 : ps.flatten.length ≤ 32768) : FitN (fileN ps) := by
  refine .inr (.inl ⟨rfl, rfl, rfl, ⟨by simpa [fileN] using h2, fun p hp => ?_, ?_⟩⟩)
  · obtain ⟨t, ht, rfl⟩ := List.mem_map.1 hp
    obtain ⟨h4, h5⟩ := h1 t ht
    unfold partOk partN
    simp only [keyN_len (fit_piece h4 h5), Bool.and_eq_true, beq_self_eq_true, decide_eq_true_eq, true_and]
    omega
  · show wholeP (ps.map partN) ≤ 32768
    rw [whole_parts]; omega

/-- A tree whose files' texts are cut to pieces that a node may have. -/
structure Ready (pc : List UInt8 → List (List UInt8)) (items : List Itm) : Prop where
  fit : FitT items
  each : ∀ x ∈ items, ∀ t ∈ pc x.2.2.2, 1 ≤ t.length ∧ t.length ≤ 4096
  few : ∀ x ∈ items, (pc x.2.2.2).length ≤ 1024
  flat : ∀ x ∈ items, (pc x.2.2.2).flatten = x.2.2.2
section
variable {pc : List UInt8 → List (List UInt8)} {items : List Itm}
theorem mem_inD {d : List UInt8} {x : Itm} : x ∈ inD items d ↔ x ∈ items ∧ dirL x.1 = d := by
  unfold inD; rw [List.mem_filter, beq_iff_eq]
theorem Ready.item (h : Ready pc items) {x : Itm} (hx : x ∈ items) : fitB x.1 = true ∧ oddT x = false ∧ x.2.2.2.length ≤ 32768 ∧ underT items x.1 = true := by
  have := h.fit.ok x hx
  unfold okT at this
  simp only [Bool.and_eq_true, Bool.not_eq_true', decide_eq_true_eq] at this
  exact ⟨this.1, this.2.1, this.2.2.1, this.2.2.2⟩
theorem Ready.file (h : Ready pc items) {x : Itm} (hx : x ∈ items) : FitN (fileN (pc x.2.2.2)) :=
  fit_file (h.each x hx) (h.few x hx) (by rw [h.flat x hx]; exact (h.item hx).2.2.1)
theorem Ready.dir (h : Ready pc items) : ∀ (n : Nat) (d : List UInt8), FitN (dirN pc items n d)
  | 0, d => .inr (.inr ⟨rfl, rfl, rfl, ⟨by simp [dirN], by simp [dirN], by simp [dirN, risesE]⟩⟩)
  | n + 1, d => by
    refine .inr (.inr ⟨rfl, rfl, rfl, ⟨?_, fun e he => ?_, ?_⟩⟩)
    · show ((inD items d).map _).length ≤ 60
      rw [List.length_map]
      exact Nat.le_trans (List.length_filter_le _ _) h.fit.len
    · obtain ⟨x, hx, rfl⟩ := List.mem_map.1 he
      obtain ⟨hx1, hx2⟩ := mem_inD.1 hx
      obtain ⟨h1, h2, h3, h4⟩ := h.item hx1
      have hl := last_name h1
      have hf := keyN_len (h.file hx1)
      have hd := keyN_len (h.dir n x.1)
      obtain ⟨p, isd, ex, data⟩ := x
      unfold oddT at h2
      cases isd <;> simp_all [entOk, entK]
    · show (((inD items d).map _).map _).Pairwise _
      rw [List.map_map, List.pairwise_map]
      have hu : (inD items d).Pairwise (fun a b => ltP a.1 b.1 = true) := List.Pairwise.sublist List.filter_sublist (List.pairwise_map.1 h.fit.up)
      refine List.Pairwise.imp_of_mem ?_ hu
      intro a b ha hb hab
      obtain ⟨ha1, ha2⟩ := mem_inD.1 ha
      obtain ⟨hb1, hb2⟩ := mem_inD.1 hb
      exact last_lt (h.item ha1).1 (h.item hb1).1 (by rw [ha2, hb2]) hab
end

/-! How many objects there are. -/
/-- Objects that rise, whose keys are among some. -/
def Among (ks : List (List UInt8)) (o : List Snp) : Prop := fit5 (namesR o) = true ∧ ∀ k ∈ namesR o, k ∈ ks
theorem Among.put {ks : List (List UInt8)} {o : List Snp} {n : Nod} (h : Among ks o) (hk : keyN n ∈ ks) : Among ks (putN o n) := by
  refine ⟨addO_fit h.1, fun k hk2 => ?_⟩
  unfold putN addO at hk2
  split at hk2
  · exact h.2 k hk2
  · unfold namesR at hk2
    obtain ⟨y, hy, rfl⟩ := List.mem_map.1 hk2
    rcases mem_insO.1 hy with rfl | hy
    · exact hk
    · exact h.2 _ (List.mem_map.2 ⟨y, hy, rfl⟩)
theorem nodup_le {α : Type} [DecidableEq α] : ∀ (a b : List α), a.Nodup → (∀ x ∈ a, x ∈ b) → a.length ≤ b.length
  | [], _, _, _ => by simp
  | x :: a, b, h, hs => by
    have hx := hs x List.mem_cons_self
    have h2 := List.nodup_cons.1 h
    have := nodup_le a (b.erase x) h2.2 (fun y hy => (List.mem_erase_of_ne (by rintro rfl; exact h2.1 hy)).2 (hs y (List.mem_cons_of_mem _ hy)))
    rw [List.length_erase_of_mem hx] at this
    have : 0 < b.length := List.length_pos_of_mem hx
    simp; omega
theorem Among.len {ks : List (List UInt8)} {o : List Snp} (h : Among ks o) : o.length ≤ ks.length := by
  have hn : (namesR o).Nodup := List.Pairwise.imp (fun hab => by rintro rfl; exact List.lt_irrefl _ hab) (fit5_up12 h.1)
  have := nodup_le _ _ hn h.2
  rwa [namesR_len] at this
section
variable (pc : List UInt8 → List (List UInt8)) (items : List Itm)
noncomputable def keysI (x : Itm) : List (List UInt8) := keyN (dirN pc items (9 - deepD x.1) x.1) :: keyN (fileN (pc x.2.2.2)) :: (pc x.2.2.2).map (fun s => keyN (pieceN s))
noncomputable def keysT : List (List UInt8) := keyN (dirN pc items 9 []) :: items.flatMap (keysI pc items)
end
section
variable {pc : List UInt8 → List (List UInt8)} {items : List Itm}
theorem keysI_mem {x : Itm} (hx : x ∈ items) {k : List UInt8} (h : k ∈ keysI pc items x) : k ∈ keysT pc items := List.mem_cons_of_mem _ (List.mem_flatMap.2 ⟨x, hx, h⟩)
theorem among_pieces {ks : List (List UInt8)} : ∀ (ps : List (List UInt8)) {o : List Snp}, Among ks o → (∀ s ∈ ps, keyN (pieceN s) ∈ ks) → Among ks (ps.foldl (fun o s => putN o (pieceN s)) o)
  | [], _, h, _ => h
  | s :: ps, _, h, hk => among_pieces ps (h.put (hk s List.mem_cons_self)) (fun t ht => hk t (List.mem_cons_of_mem _ ht))
theorem among_file {o : List Snp} (h : Among (keysT pc items) o) {x : Itm} (hx : x ∈ items) : Among (keysT pc items) (fileO o (pc x.2.2.2)) :=
  (among_pieces _ h (fun s hs => keysI_mem hx (List.mem_cons_of_mem _ (List.mem_cons_of_mem _ (List.mem_map.2 ⟨s, hs, rfl⟩))))).put (keysI_mem hx (List.mem_cons_of_mem _ List.mem_cons_self))
/-- A directory of a tree's. -/
def DirOf (items : List Itm) (d : List UInt8) : Prop := d = [] ∨ ∃ x ∈ items, x.1 = d
theorem dir_key {d : List UInt8} {n : Nat} (hd : DirOf items d) (hn : n + deepD d = 9) : keyN (dirN pc items n d) ∈ keysT pc items := by
  rcases hd with rfl | ⟨x, hx, rfl⟩
  · rw [show n = 9 by simpa [deepD] using hn]; exact List.mem_cons_self
  · rw [show n = 9 - deepD x.1 by omega]; exact keysI_mem hx List.mem_cons_self
theorem Ready.among (h : Ready pc items) : ∀ (n : Nat) (d : List UInt8) (o : List Snp), DirOf items d → n + deepD d = 9 → Among (keysT pc items) o → Among (keysT pc items) (dirO pc items n o d)
  | 0, d, o, hd, hn, ha => by
    have := dir_key (pc := pc) hd hn
    exact ha.put this
  | n + 1, d, o, hd, hn, ha => by
    rw [dirO_succ]
    refine Among.put ?_ (dir_key hd hn)
    have : ∀ (l : List Itm) (o : List Snp), (∀ x ∈ l, x ∈ inD items d) → Among (keysT pc items) o → Among (keysT pc items) (someO pc items n o l) := by
      intro l
      induction l with
      | nil => intro o _ ha; exact ha
      | cons x l ih =>
        intro o hl ha
        obtain ⟨hx1, hx2⟩ := mem_inD.1 (hl x List.mem_cons_self)
        refine ih _ (fun y hy => hl y (List.mem_cons_of_mem _ hy)) ?_
        show Among _ (if x.2.1 = true then _ else _)
        split
        · refine h.among n x.1 o (.inr ⟨x, hx1, rfl⟩) ?_ ha
          have := (deep_step (h.item hx1).1).1
          rw [hx2] at this; omega
        · exact among_file ha hx1
    exact this _ o (fun x hx => hx) ha
theorem Ready.keys_len (h : Ready pc items) : (keysT pc items).length ≤ 70000 := by
  have h1 := h.fit.len
  have : ∀ (l : List Itm), (∀ x ∈ l, x ∈ items) → (l.flatMap (keysI pc items)).length ≤ 1026 * l.length := by
    intro l
    induction l with
    | nil => intro _; simp
    | cons x l ih =>
      intro hl
      have h2 := ih (fun y hy => hl y (List.mem_cons_of_mem _ hy))
      have h3 := h.few x (hl x List.mem_cons_self)
      rw [List.flatMap_cons, List.length_append, List.length_cons]
      simp only [keysI, List.length_cons, List.length_map]; omega
  have h2 := this items (fun _ hx => hx)
  unfold keysT
  rw [List.length_cons]; omega
end
end Go.Proofs.YtkejdbidomlonaaGreatDoor

namespace Go.Proofs.YtkejdbidomlonaaGreatDoor
open Go.RowKit


set_option maxHeartbeats 2000000 in
set_option maxRecDepth 100000 in
theorem rhas_walk (v : Value) (xs : List (List UInt8)) (k : List UInt8) (w : World) (hr : StrRow w v xs) (hcnt : xs.length ≤ 1100000) :
    Calls Tryz.prog 86 #[v, S k] w fun e w' => e = .returned (.bool (decide (k ∈ xs))) ∧ Below w.heap.size w w' := by
  obtain ⟨a, c, rfl, hc, hm, hx⟩ := hr
  have HX := Lib.hid hx
  have HT := Lib.hid (fun (h : k ∈ xs) => decide_eq_true h)
  have HF := Lib.hid (fun (h : ¬ k ∈ xs) => decide_eq_false h)
  generalize decide (k ∈ xs) = res at *
  clear hx
  go_enter Tryz.func86, Tryz.ntmps86
  go_wp2
  go_loopw [5] (fun i wr => ∃ j : Nat, j ≤ xs.length ∧ i = .int .i64 j ∧ (∀ x ∈ xs.take j, x ≠ k) ∧ Below w.heap.size w wr) (fun i _ => xs.length - (intOf i).toNat)
  case atStart => exact ⟨0, Nat.zero_le _, rfl, by simp, Below.refl _ _⟩
  case round =>
    obtain ⟨j, hj, rfl, hall, hB⟩ := hrel
    have HALL := Lib.hid hall
    clear hall
    by_cases h1 : j < xs.length
    · have h1' : (j : Int) < (xs.length : Int) := by omega
      have hx := HX.out
      rcases hx with hx | ⟨b, o, rfl, hx⟩
      · exfalso; rw [hx] at h1; simp at h1
      have hc1 := cell_below hB (str_cell hx h1)
      clear hx
      by_cases hq : xs[j] = k
      · have HR := Lib.hid (HT.out (by rw [← hq]; exact List.getElem_mem h1))
        have hq' : (xs[j] == k) = true := by rw [beq_iff_eq]; exact hq
        clear hq
        generalize xs[j] = y at *
        go_wp2
        go_ret
        exact ⟨by rw [HR.out]; rfl, hB⟩
      · have HN := Lib.hid (show ∀ x ∈ xs.take (j + 1), x ≠ k from fun x hx => by
          rw [List.take_succ_eq_append_getElem h1, List.mem_append] at hx
          rcases hx with hx | hx
          · exact HALL.out x hx
          · simp only [List.mem_singleton] at hx; rw [hx]; exact hq)
        have hq' : (xs[j] == k) = false := by rw [beq_eq_false_iff_ne]; exact hq
        clear hq
        generalize xs[j] = y at *
        go_wp2
        go_roundw
        case rel => exact ⟨j + 1, by omega, by go_num, HN.out, hB⟩
        case measure => simp [intOf]; omega
    · have h1' : ¬ (j : Int) < (xs.length : Int) := by omega
      have HR := Lib.hid (HF.out (fun h => by
        have h2 := HALL.out
        rw [List.take_of_length_le (by omega)] at h2
        exact h2 k h rfl))
      go_wp2
      go_ret
      exact ⟨by rw [HR.out]; rfl, hB⟩

end Go.Proofs.YtkejdbidomlonaaGreatDoor

namespace Go.Proofs.YtkejdbidomlonaaGreatDoor
open Go.RowKit

set_option maxHeartbeats 4000000 in
set_option maxRecDepth 100000 in
theorem radd2_walk (v : Value) (l : List (List UInt8)) (k : List UInt8) (w : World) (hr : StrRow w v l) (hcnt : l.length ≤ 1100000) (hup : upS l) :
    Calls Tryz.prog 63 #[v, S k] w fun e w' => ∃ v', e = .returned v' ∧ (addL l k = l ∧ v' = v ∨ w'.ownsRow w.heap.size 9 1 v' (addL l k).length ((addL l k).map S)) ∧ Below w.heap.size w w' := by
  have C := rhas_walk v l k w hr hcnt
  by_cases hin : k ∈ l
  · have HA := Lib.hid (show addL l k = l from if_pos hin)
    rw [decide_eq_true hin] at C
    clear hin hup
    go_enter Tryz.func63, Tryz.ntmps63
    go_wp2_with (go_at_call 86; refine (C).mono ?_; rintro e w1 ⟨rfl, hb1⟩)
    go_ret
    exact ⟨_, rfl, .inl ⟨HA.out, rfl⟩, hb1⟩
  have HA := Lib.hid (show addL l k = withK id l k from if_neg hin)
  rw [decide_eq_false hin] at C
  obtain ⟨a, c, rfl, hc, hm, hx⟩ := hr
  have HX := Lib.hid hx
  have HUP := Lib.hid hup
  have HIN := Lib.hid hin
  clear hx hup hin
  obtain ⟨i0, hi, hz0, hz1, hz2⟩ := info_parts infoStr
  go_enter Tryz.func63, Tryz.ntmps63
  go_wp2_with fail
  refine C.mono ?_
  rintro e w0 ⟨rfl, hB0⟩
  go_wp2
  go_loopw [5, 6, 7] (fun v d i wr => ∃ (n : Nat) (out : List (List UInt8)), n ≤ l.length ∧ i = .int .i64 n ∧ AddSt l k n d out ∧ wr.ownsRow w0.heap.size 9 1 v out.length (out.map S) ∧ out.length ≤ n + 1 ∧ Below w0.heap.size w0 wr) (fun _ _ i _ => l.length - (intOf i).toNat)
  case atStart => exact ⟨0, [], Nat.zero_le _, rfl, add_start _ _, World.ownsRow_nil _ _ _ _, by simp, Below.refl _ _⟩
  case round =>
    obtain ⟨n, out, hn, rfl, hst, hown, hdk, hB⟩ := hrel
    have hsz := hB.size
    have hBw := below_chain hB0 hB hB0.size
    by_cases h1 : n < l.length
    · have hx := HX.out
      rcases hx with hx | ⟨b, o, rfl, hx⟩
      · exfalso; rw [hx] at h1; simp at h1
      have hc1 := cell_below hBw (str_cell hx h1)
      obtain ⟨y, hy⟩ : ∃ y, l[n] = y := ⟨_, rfl⟩
      have hyk : y ≠ k := fun e => HIN.out (by rw [← e, ← hy]; exact List.getElem_mem h1)
      have HST := Lib.hid hst
      have HY := Lib.hid hy
      rw [hy] at hc1
      clear hx hy
      have h1' : (n : Int) < (l.length : Int) := by omega
      have hcase : (u6 = .bool false) ∨ (u6 = .bool true) := by
        rcases hst with ⟨h, _⟩ | ⟨h, _⟩
        · exact .inl h
        · exact .inr h
      clear hst
      rcases hcase with rfl | rfl
      · have hdk2 : out.length ≤ n := by
          rcases HST.out with ⟨_, h, _⟩ | ⟨h, _⟩
          · rw [h, List.length_take]; omega
          · cases h
        rcases three_ways y k with ⟨_, hlt, hbl, _, hne⟩ | ⟨_, heq, hbl, _, hne⟩ | ⟨_, hlt, hbl, hbl2, hne⟩
        · have HS := Lib.hid (add_less h1 HY.out HST.out hlt)
          clear hlt HST hyk
          go_wp2_with (at_builtin; refine wpList_append_own _ rfl _ _ 38 rfl w0.heap.size 9 i0 (.string ⟨#[]⟩) 1 16 Tryz.underlying38 hi hz0 hz1 hz2 rfl (by decide) _ _ _ rfl (hown.alloc _) ⟨wr.heap.size, 0, none⟩ 1 1 [S y] rfl rfl (new_cell_at rfl _ _) (s_one _) (by unfold maxLen; omega) (by omega) (by rw [World.size_alloc]; omega) ?_)
          intro v' w1 hown' hgrow _
          have hB1 : Below w0.heap.size w0 w1 := (hB.alloc hsz _).grown hgrow (by rw [World.size_alloc]; omega) (fun j hj => (hown.lt j hj).1)
          clear hgrow hown hB hc1
          go_wp2
          go_roundw
          case rel => exact ⟨n + 1, _, by omega, by go_num, HS.out, by simpa using hown', by simp; omega, hB1⟩
          case measure => simp [intOf]; omega
        · exact absurd heq hyk
        · have HS := Lib.hid (add_put h1 HY.out HST.out hlt)
          clear hlt HST hyk
          go_wp2_with (at_builtin; refine wpList_append_own _ rfl _ _ 38 rfl w0.heap.size 9 i0 (.string ⟨#[]⟩) 1 16 Tryz.underlying38 hi hz0 hz1 hz2 rfl (by decide) _ _ _ rfl (hown.alloc _) ⟨wr.heap.size, 0, none⟩ 1 1 [S k] rfl rfl (new_cell_at rfl _ _) (s_one _) (by unfold maxLen; omega) (by omega) (by rw [World.size_alloc]; omega) ?_)
          intro v' w1 hown' hgrow _
          have hB1 : Below w0.heap.size w0 w1 := (hB.alloc hsz _).grown hgrow (by rw [World.size_alloc]; omega) (fun j hj => (hown.lt j hj).1)
          have hsz1 := hB1.size
          have hBw1 := below_chain hB0 hB1 hB0.size
          have hx := HX.out
          rcases hx with hx | ⟨b2, o2, hbo, hx⟩
          · exfalso; rw [hx] at h1; simp at h1
          cases hbo
          have hc2 := cell_below hBw1 (str_cell hx h1)
          rw [HY.out] at hc2
          clear hx hgrow hown hB hc1
          go_wp2_with (at_builtin; refine wpList_append_own _ rfl _ _ 38 rfl w0.heap.size 9 i0 (.string ⟨#[]⟩) 1 16 Tryz.underlying38 hi hz0 hz1 hz2 rfl (by decide) _ _ _ rfl (hown'.alloc _) ⟨w1.heap.size, 0, none⟩ 1 1 [S y] rfl rfl (new_cell_at rfl _ _) (s_one _) (by unfold maxLen; omega) (by omega) (by rw [World.size_alloc]; omega) ?_)
          intro v'' w2 hown2 hgrow2 _
          have hB2 : Below w0.heap.size w0 w2 := (hB1.alloc hsz1 _).grown hgrow2 (by rw [World.size_alloc]; omega) (fun j hj => (hown'.lt j hj).1)
          clear hgrow2 hown' hB1
          go_wp2
          go_roundw
          case rel => exact ⟨n + 1, _, by omega, by go_num, HS.out, by simpa using hown2, by simp; omega, hB2⟩
          case measure => simp [intOf]; omega
      · obtain ⟨hlt, hS⟩ := add_on HUP.out h1 HY.out HST.out
        have HS := Lib.hid hS
        clear hlt hS HST hyk
        go_wp2_with (at_builtin; refine wpList_append_own _ rfl _ _ 38 rfl w0.heap.size 9 i0 (.string ⟨#[]⟩) 1 16 Tryz.underlying38 hi hz0 hz1 hz2 rfl (by decide) _ _ _ rfl (hown.alloc _) ⟨wr.heap.size, 0, none⟩ 1 1 [S y] rfl rfl (new_cell_at rfl _ _) (s_one _) (by unfold maxLen; omega) (by omega) (by rw [World.size_alloc]; omega) ?_)
        intro v' w1 hown' hgrow _
        have hB1 : Below w0.heap.size w0 w1 := (hB.alloc hsz _).grown hgrow (by rw [World.size_alloc]; omega) (fun j hj => (hown.lt j hj).1)
        clear hgrow hown hB hc1
        go_wp2
        go_roundw
        case rel => exact ⟨n + 1, _, by omega, by go_num, HS.out, by simpa using hown', by simp; omega, hB1⟩
        case measure => simp [intOf]; omega
    · have h1' : ¬ (n : Int) < (l.length : Int) := by omega
      obtain rfl : n = l.length := by omega
      have hst2 := hst
      rcases hst2 with ⟨rfl, h2, h3⟩ | ⟨rfl, h2, _⟩
      · rw [List.take_of_length_le (Nat.le_refl _)] at h2 h3
        have HW := Lib.hid (show withK id l k = out ++ [k] by rw [h2]; exact with_end (key := id) h3)
        clear hst h2 h3
        go_wp2_with (at_builtin; refine wpList_append_own _ rfl _ _ 38 rfl w0.heap.size 9 i0 (.string ⟨#[]⟩) 1 16 Tryz.underlying38 hi hz0 hz1 hz2 rfl (by decide) _ _ _ rfl (hown.alloc _) ⟨wr.heap.size, 0, none⟩ 1 1 [S k] rfl rfl (new_cell_at rfl _ _) (s_one _) (by unfold maxLen; omega) (by omega) (by rw [World.size_alloc]; omega) ?_)
        intro v' w1 hown' hgrow _
        have hB1 : Below w0.heap.size w0 w1 := (hB.alloc hsz _).grown hgrow (by rw [World.size_alloc]; omega) (fun j hj => (hown.lt j hj).1)
        clear hgrow hown hB
        go_wp2
        go_ret
        refine ⟨_, rfl, ?_, below_chain hB0 hB1 hB0.size⟩
        rw [HA.out, HW.out]; exact .inr (own_mono hB0.size (by simpa using hown'))
      · rw [List.take_of_length_le (Nat.le_refl _)] at h2
        have HW := Lib.hid h2
        clear hst h2
        go_wp2
        go_ret
        refine ⟨_, rfl, ?_, hBw⟩
        rw [HA.out, ← HW.out]; exact .inr (own_mono hB0.size hown)
theorem radd_walk (v : Value) (l : List (List UInt8)) (k : List UInt8) (w : World) (hr : StrRow w v l) (hcnt : l.length ≤ 1100000) (hup : upS l) :
    Calls Tryz.prog 63 #[v, S k] w fun e w' => ∃ v', e = .returned v' ∧ StrRow w' v' (addL l k) ∧ Below w.heap.size w w' := by
  refine (radd2_walk v l k w hr hcnt hup).mono ?_
  rintro e w' ⟨v', rfl, h, hb⟩
  refine ⟨v', rfl, ?_, hb⟩
  rcases h with ⟨h1, rfl⟩ | h
  · rw [h1]; exact hr.below hb
  · exact StrRow.of_owns h
end Go.Proofs.YtkejdbidomlonaaGreatDoor

namespace Go.Proofs.YtkejdbidomlonaaGreatDoor

def len32 (x : List UInt8) : Bool := x.length == 32
/-- The set of those keys that are keys. -/
def setOf (l : List (List UInt8)) : List (List UInt8) := (l.filter len32).foldl addL []
theorem foldl_add_up : ∀ (l s : List (List UInt8)), upS s → upS (l.foldl addL s)
  | [], _, h => h
  | _ :: l, _, h => foldl_add_up l _ (addL_up h)
theorem foldl_add_mem : ∀ (l s : List (List UInt8)) (x : List UInt8), x ∈ l.foldl addL s ↔ x ∈ l ∨ x ∈ s
  | [], s, x => by simp
  | y :: l, s, x => by
    rw [List.foldl_cons, foldl_add_mem l, addL_mem, List.mem_cons]
    constructor
    · rintro (h | h | h)
      · exact .inl (.inr h)
      · exact .inl (.inl h)
      · exact .inr h
    · rintro ((h | h) | h)
      · exact .inr (.inl h)
      · exact .inl h
      · exact .inr (.inr h)
theorem upS_nil : upS [] := List.Pairwise.nil
theorem setOf_up (l : List (List UInt8)) : upS (setOf l) := foldl_add_up _ _ upS_nil
theorem setOf_mem {l : List (List UInt8)} {x : List UInt8} : x ∈ setOf l ↔ x ∈ l ∧ x.length = 32 := by
  unfold setOf
  rw [foldl_add_mem]
  simp [len32]
theorem addL_len (l : List (List UInt8)) (k : List UInt8) : (addL l k).length ≤ l.length + 1 := by
  unfold addL
  split
  · omega
  · exact with_len (key := id) l k
theorem foldl_add_len : ∀ (l s : List (List UInt8)), (l.foldl addL s).length ≤ s.length + l.length
  | [], _ => by simp
  | y :: l, s => by
    have h := foldl_add_len l (addL s y)
    have h2 := addL_len s y
    simp only [List.foldl_cons, List.length_cons]; omega
theorem setOf_len (l : List (List UInt8)) : (setOf l).length ≤ l.length := by
  have h := foldl_add_len (l.filter len32) []
  have h2 := List.length_filter_le len32 l
  unfold setOf
  simp only [List.length_nil] at h
  omega
theorem up_ext : ∀ {a b : List (List UInt8)}, upS a → upS b → (∀ x, x ∈ a ↔ x ∈ b) → a = b
  | [], [], _, _, _ => rfl
  | [], y :: _, _, _, h => absurd ((h y).2 (by simp)) (by simp)
  | x :: _, [], _, _, h => absurd ((h x).1 (by simp)) (by simp)
  | x :: a, y :: b, ha, hb, h => by
    unfold upS at ha hb
    rw [List.pairwise_cons] at ha hb
    have hxy : x = y := by
      rcases List.mem_cons.1 ((h x).1 (by simp)) with e | e
      · exact e
      · rcases List.mem_cons.1 ((h y).2 (by simp)) with e2 | e2
        · exact e2.symm
        · exact absurd (ha.1 y e2) (List.lt_asymm (hb.1 x e))
    subst hxy
    congr 1
    refine up_ext ha.2 hb.2 fun z => ?_
    have hz := h z
    simp only [List.mem_cons] at hz
    constructor
    · intro hm
      rcases hz.1 (.inr hm) with rfl | h2
      · exact absurd (ha.1 z hm) (List.lt_irrefl z)
      · exact h2
    · intro hm
      rcases hz.2 (.inr hm) with rfl | h2
      · exact absurd (hb.1 z hm) (List.lt_irrefl z)
      · exact h2
theorem compact_inv {zs : List (List UInt8)} (hs : zs.Pairwise (· ≤ ·)) : ∀ m, m ≤ zs.length → upS (Lib.compactUpTo zs.toArray m) ∧ ∀ x, x ∈ Lib.compactUpTo zs.toArray m ↔ x ∈ zs.take m
  | 0, _ => ⟨List.Pairwise.nil, fun x => by simp [Lib.compactUpTo]⟩
  | m + 1, h => by
    obtain ⟨ih1, ih2⟩ := compact_inv hs m (by omega)
    have hm : m < zs.length := by omega
    have e : zs.toArray[m]! = zs[m] := by rw [getElem!_pos zs.toArray m (by simpa using hm)]; simp
    rw [Lib.compactUpTo_succ, List.take_succ_eq_append_getElem hm]
    by_cases hk : Lib.keeps zs.toArray m = true
    · rw [if_pos hk, e]
      refine ⟨List.pairwise_append.2 ⟨ih1, List.pairwise_singleton _ _, ?_⟩, fun x => by rw [List.mem_append, List.mem_append, ih2]⟩
      intro a ha b hb
      obtain rfl := List.mem_singleton.1 hb
      obtain ⟨i, hi, rfl⟩ := List.mem_take_iff_getElem.1 ((ih2 a).1 ha)
      have hm1 : m - 1 < zs.length := by omega
      have e1 : zs.toArray[m - 1]! = zs[m - 1] := by rw [getElem!_pos zs.toArray (m - 1) (by simpa using hm1)]; simp
      have hne : zs[m - 1] ≠ zs[m] := by
        have := of_decide_eq_true hk
        rw [e, e1] at this
        rcases this with h1 | h1
        · omega
        · exact fun h2 => h1 h2.symm
      have h1 : zs[i] ≤ zs[m - 1] := by
        by_cases hq : i = m - 1
        · subst hq; exact List.le_refl _
        · exact List.pairwise_iff_getElem.1 hs i (m - 1) _ _ (by omega)
      have h2 : zs[m - 1] ≤ zs[m] := List.pairwise_iff_getElem.1 hs (m - 1) m _ _ (by omega)
      have h3 : zs[m - 1] < zs[m] := by
        rcases lt_or_eq_or_gt zs[m - 1] zs[m] with h4 | h4 | h4
        · exact h4
        · exact absurd h4 hne
        · exact absurd h4 (List.not_lt.2 h2)
      exact List.lt_of_le_of_lt h1 h3
    · rw [if_neg hk, List.append_nil]
      refine ⟨ih1, fun x => ?_⟩
      rw [ih2, List.mem_append]
      constructor
      · exact .inl
      · rintro (h1 | h1)
        · exact h1
        · obtain rfl := List.mem_singleton.1 h1
          have hm1 : m - 1 < zs.length := by omega
          have e1 : zs.toArray[m - 1]! = zs[m - 1] := by rw [getElem!_pos zs.toArray (m - 1) (by simpa using hm1)]; simp
          have hd : ¬ (m = 0 ∨ zs[m] ≠ zs[m - 1]) := by
            intro h2
            exact hk (by unfold Lib.keeps; rw [e, e1]; exact decide_eq_true h2)
          have hd2 : zs[m] = zs[m - 1] := Classical.byContradiction fun h2 => hd (.inr h2)
          have hd3 : m ≠ 0 := fun h2 => hd (.inl h2)
          rw [hd2]
          exact List.mem_take_iff_getElem.2 ⟨m - 1, by omega, rfl⟩
theorem sort_le (l : List (List UInt8)) : (l.mergeSort fun x y => decide (x ≤ y)).Pairwise (· ≤ ·) := by
  have h := List.pairwise_mergeSort (le := fun x y : List UInt8 => decide (x ≤ y)) (fun a b c h1 h2 => decide_eq_true (List.le_trans (of_decide_eq_true h1) (of_decide_eq_true h2))) (fun a b => by rcases List.le_total a b with h | h <;> simp [h]) l
  exact h.imp fun h1 => of_decide_eq_true h1
/-- Sorted, without repeats: the set. -/
theorem compact_set (l : List (List UInt8)) : Lib.compact ((l.filter len32).mergeSort fun x y => decide (x ≤ y)) = setOf l := by
  obtain ⟨h1, h2⟩ := compact_inv (sort_le (l.filter len32)) _ (Nat.le_refl _)
  refine up_ext h1 (setOf_up l) fun x => ?_
  unfold Lib.compact
  rw [h2, List.take_length, List.mem_mergeSort, setOf_mem, List.mem_filter]
  simp [len32]
end Go.Proofs.YtkejdbidomlonaaGreatDoor

namespace Go.Proofs.YtkejdbidomlonaaGreatDoor

def kidsL (n : Nod) : List (List UInt8) := n.parts.map (fun p : Prt => p.1) ++ n.ents.map (fun e : Ent => e.2.2.2)
def kidsN (n : Nod) : List (List UInt8) := setOf (kidsL n)
theorem kidsL_len (n : Nod) : (kidsL n).length = n.parts.length + n.ents.length := by simp [kidsL]
theorem kidsN_len (n : Nod) : (kidsN n).length ≤ n.parts.length + n.ents.length := by
  have := setOf_len (kidsL n); rw [kidsL_len] at this; exact this
theorem kidsN_part {n : Nod} {p : Prt} (h : p ∈ n.parts) : p.1 ∈ kidsN n ↔ p.1.length = 32 := by
  unfold kidsN
  rw [setOf_mem]
  exact ⟨fun h1 => h1.2, fun h1 => ⟨List.mem_append.2 (.inl (List.mem_map.2 ⟨p, h, rfl⟩)), h1⟩⟩
theorem kidsN_ent {n : Nod} {e : Ent} (h : e ∈ n.ents) : e.2.2.2 ∈ kidsN n ↔ e.2.2.2.length = 32 := by
  unfold kidsN
  rw [setOf_mem]
  exact ⟨fun h1 => h1.2, fun h1 => ⟨List.mem_append.2 (.inr (List.mem_map.2 ⟨e, h, rfl⟩)), h1⟩⟩
end Go.Proofs.YtkejdbidomlonaaGreatDoor
