/- A tree that lies in a directory of another one: plain. -/
import Derived.Test.YtbmdoekfbkpaeaaGreatDoorJClash12
namespace Go.Proofs.YtbmdoekfbkpaeaaGreatDoor

theorem relD_succ (items : List Itm) (n : Nat) (d : List UInt8) : relD items (n + 1) d = (inD items d).flatMap (fun x => ([lastN x.1], x.2) :: if x.2.1 = true then (relD items n x.1).map (fun r => (lastN x.1 :: r.1, r.2)) else []) := rfl
theorem flatMap_eq {α β : Type} {f g : α → List β} : ∀ {l : List α}, (∀ x ∈ l, f x = g x) → l.flatMap f = l.flatMap g
  | [], _ => rfl
  | x :: l, h => by rw [List.flatMap_cons, List.flatMap_cons, h x List.mem_cons_self, flatMap_eq fun y hy => h y (List.mem_cons_of_mem _ hy)]
abbrev upN2 : List UInt8 := [117, 112]
def upQ (p : List UInt8) : List UInt8 := upN2 ++ 47 :: p
def upI (x : Itm) : Itm := (upQ x.1, x.2)
def upD (d : List UInt8) : List UInt8 := if d = [] then upN2 else upQ d
def mT (l : List Itm) : List Itm := (upN2, true, false, []) :: l.map upI
theorem parts_up (p : List UInt8) : partsL (upQ p) = upN2 :: partsL p := by
  unfold upQ
  rw [partsL_append]
  rfl
theorem upQ_inj {p q : List UInt8} (h : upQ p = upQ q) : p = q := by
  unfold upQ at h
  have h2 := List.append_cancel_left h
  injection h2
theorem upD_inj {p q : List UInt8} (h : upD p = upD q) : p = q := by
  unfold upD at h
  by_cases hp : p = [] <;> by_cases hq : q = []
  · rw [hp, hq]
  · rw [if_pos hp, if_neg hq] at h; simp [upQ] at h
  · rw [if_neg hp, if_pos hq] at h; simp [upQ] at h
  · rw [if_neg hp, if_neg hq] at h; exact upQ_inj h
theorem upD_ne (d : List UInt8) : upD d ≠ [] := by
  unfold upD
  split <;> simp [upQ]
theorem last_up {p : List UInt8} (h : fitB p = true) : lastN (upQ p) = lastN p := by
  unfold lastN
  rw [parts_up]
  obtain ⟨a, t, ht⟩ := List.exists_cons_of_ne_nil (fit_parts h).2.2
  rw [ht]
  simp [List.getLastD_eq_getLast?]
theorem dir_up {p : List UInt8} (h : fitB p = true) (h2 : fitB (upQ p) = true) : dirL (upQ p) = upD (dirL p) := by
  have e1 := pd_step h
  have e2 := pd_step h2
  rw [parts_up, last_up h, e1, ← List.cons_append] at e2
  have e3 := List.append_cancel_right e2
  rcases parts_of_dir h2 with ⟨h3, _⟩ | ⟨h3, h4, _⟩
  · rw [h3] at e3; simp [pdD] at e3
  · rw [pd_fit h4] at e3
    unfold upD
    rcases parts_of_dir h with ⟨h5, _⟩ | ⟨h5, h6, _⟩
    · rw [if_pos h5]
      rw [h5] at e3
      exact parts_inj (by rw [← e3]; rfl)
    · rw [if_neg h5]
      rw [pd_fit h6] at e3
      exact parts_inj (by rw [← e3, parts_up])
section
variable {pc : List UInt8 → List (List UInt8)} {l : List Itm}
theorem fit_ne {p : List UInt8} (h : fitB p = true) : p ≠ [] := by
  rintro rfl
  simp [fitB, splitL, partsL, nameB] at h
theorem mem_up {x : Itm} (h : x ∈ l) : upI x ∈ mT l := List.mem_cons_of_mem _ (List.mem_map.2 ⟨x, h, rfl⟩)
theorem inD_up (hr : Ready pc l) (hm : Ready pc (mT l)) (d : List UInt8) : inD (mT l) (upD d) = (inD l d).map upI := by
  unfold inD mT
  rw [List.filter_cons_of_neg (by
    show ¬ (dirL upN2 == upD d) = true
    rw [show dirL upN2 = [] from dirL_noslash (by decide)]
    intro h
    exact upD_ne d (eq_of_beq h).symm), List.filter_map]
  congr 1
  refine List.filter_congr fun x hx => ?_
  show (dirL (upQ x.1) == upD d) = (dirL x.1 == d)
  rw [dir_up (hr.item hx).1 (hm.item (mem_up hx)).1, Bool.eq_iff_iff, beq_iff_eq, beq_iff_eq]
  exact ⟨upD_inj, fun h => by rw [h]⟩
theorem inD_top (hr : Ready pc l) (hm : Ready pc (mT l)) : inD (mT l) [] = [(upN2, true, false, [])] := by
  unfold inD mT
  rw [List.filter_cons_of_pos (by show (dirL upN2 == []) = true; rw [show dirL upN2 = [] from dirL_noslash (by decide)]; rfl)]
  congr 1
  rw [List.filter_eq_nil_iff]
  intro y hy
  obtain ⟨x, hx, rfl⟩ := List.mem_map.1 hy
  show ¬ (dirL (upQ x.1) == []) = true
  rw [dir_up (hr.item hx).1 (hm.item (mem_up hx)).1]
  intro h
  exact upD_ne _ (eq_of_beq h)
theorem upD_item {x : Itm} (hr : Ready pc l) (hx : x ∈ l) : upQ x.1 = upD x.1 := by
  unfold upD
  rw [if_neg (fit_ne (hr.item hx).1)]
theorem dirN_up (hr : Ready pc l) (hm : Ready pc (mT l)) : ∀ (n : Nat) (d : List UInt8), dirN pc (mT l) n (upD d) = dirN pc l n d
  | 0, _ => rfl
  | n + 1, d => by
    show (⟨3, [], [], (inD (mT l) (upD d)).map (entK pc (fun p => keyN (dirN pc (mT l) n p)))⟩ : Nod) = ⟨3, [], [], (inD l d).map (entK pc (fun p => keyN (dirN pc l n p)))⟩
    congr 1
    rw [inD_up hr hm, List.map_map]
    refine List.map_congr_left fun x hx => ?_
    have hx1 := (mem_inD.1 hx).1
    show entK pc _ (upI x) = entK pc _ x
    unfold entK upI
    simp only
    rw [last_up (hr.item hx1).1, upD_item hr hx1, dirN_up hr hm n x.1]
theorem nodesD_up (hr : Ready pc l) (hm : Ready pc (mT l)) : ∀ (n : Nat) (d : List UInt8), nodesD pc (mT l) n (upD d) = nodesD pc l n d := by
  intro n
  induction n with
  | zero => intro d; rfl
  | succ n ih =>
    intro d
    have h1 : nodesS pc (mT l) n (inD (mT l) (upD d)) = nodesS pc l n (inD l d) := by
      unfold nodesS
      rw [inD_up hr hm, List.flatMap_map]
      refine flatMap_eq fun x hx => ?_
      have h2 : nodesD pc (mT l) n (upI x).1 = nodesD pc l n x.1 := by
        rw [show (upI x).1 = upD x.1 from upD_item hr (mem_inD.1 hx).1]
        exact ih x.1
      rw [h2]
      rfl
    rw [nodesD_succ, nodesD_succ, dirN_up hr hm, h1]
theorem deep_up (hr : Ready pc l) (hm : Ready pc (mT l)) {x : Itm} (hx : x ∈ l) : deepD x.1 ≤ 7 := by
  have h1 := (deep_step (hm.item (mem_up hx)).1).2
  have h2 := (hr.item hx).1
  unfold deepD at h1 ⊢
  rw [if_neg (fit_ne h2)]
  rw [if_neg (fit_ne (hm.item (mem_up hx)).1), show (upI x).1 = upQ x.1 from rfl, parts_up, List.length_cons] at h1
  omega
theorem fuel (hr : Ready pc l) : ∀ (n : Nat) (d : List UInt8), (∀ x ∈ l, deepD x.1 ≤ n + deepD d) → dirN pc l n d = dirN pc l (n + 1) d ∧ nodesD pc l n d = nodesD pc l (n + 1) d
  | 0, d, h => by
    have h0 : inD l d = [] := by
      rw [List.eq_nil_iff_forall_not_mem]
      intro x hx
      obtain ⟨hx1, hx2⟩ := mem_inD.1 hx
      have h1 := h x hx1
      have h2 := (deep_step (hr.item hx1).1).1
      rw [hx2] at h2
      omega
    have e : dirN pc l 0 d = dirN pc l 1 d := by
      show (⟨3, [], [], []⟩ : Nod) = ⟨3, [], [], (inD l d).map _⟩
      rw [h0]; rfl
    refine ⟨e, ?_⟩
    rw [nodesD_succ, ← e]
    unfold nodesS
    rw [h0]; rfl
  | n + 1, d, h => by
    have ih : ∀ x ∈ inD l d, dirN pc l n x.1 = dirN pc l (n + 1) x.1 ∧ nodesD pc l n x.1 = nodesD pc l (n + 1) x.1 := fun x hx => by
      obtain ⟨hx1, hx2⟩ := mem_inD.1 hx
      have h2 := (deep_step (hr.item hx1).1).1
      rw [hx2] at h2
      exact fuel hr n x.1 fun y hy => by have := h y hy; omega
    have e : dirN pc l (n + 1) d = dirN pc l (n + 1 + 1) d := by
      show (⟨3, [], [], (inD l d).map (entK pc (fun p => keyN (dirN pc l n p)))⟩ : Nod) = ⟨3, [], [], (inD l d).map (entK pc (fun p => keyN (dirN pc l (n + 1) p)))⟩
      congr 1
      refine List.map_congr_left fun x hx => ?_
      simp only [entK, (ih x hx).1]
    refine ⟨e, ?_⟩
    rw [nodesD_succ, nodesD_succ, ← e]
    congr 1
    unfold nodesS
    exact flatMap_eq fun x hx => by rw [(ih x hx).2]
theorem top_up (hr : Ready pc l) (hm : Ready pc (mT l)) : dirN pc (mT l) 9 [] = ⟨3, [], [], [(upN2, 3, false, keyN (dirN pc l 9 []))]⟩ ∧ nodesD pc (mT l) 9 [] = nodesD pc l 9 [] ++ [dirN pc (mT l) 9 []] := by
  have hf := fuel hr 8 [] (fun x hx => by have := deep_up hr hm hx; omega)
  have hd := dirN_up hr hm 8 []
  have hn := nodesD_up hr hm 8 []
  rw [show upD [] = upN2 from rfl] at hd hn
  rw [hf.1] at hd
  rw [hf.2] at hn
  refine ⟨?_, ?_⟩
  · show (⟨3, [], [], (inD (mT l) []).map (entK pc (fun p => keyN (dirN pc (mT l) 8 p)))⟩ : Nod) = _
    rw [inD_top hr hm]
    simp only [List.map_cons, List.map_nil, entK, if_true]
    rw [hd]
    rfl
  · rw [nodesD_succ]
    congr 1
    unfold nodesS
    rw [inD_top hr hm]
    simp only [List.flatMap_cons, List.flatMap_nil, if_true, List.append_nil]
    exact hn
/-- A directory among a tree's nodes. -/
theorem node_dir : ∀ (n : Nat) (d : List UInt8) {m : Nod}, m ∈ nodesD pc l n d → m.kind = 3 → ∃ n' d', m = dirN pc l n' d' ∧ (∀ q ∈ nodesD pc l n' d', q ∈ nodesD pc l n d) ∧ (relD l n' d').length ≤ (relD l n d).length
  | 0, d, m, hm, _ => ⟨0, d, List.mem_singleton.1 hm, fun _ h => h, Nat.le_refl _⟩
  | n + 1, d, m, hm, hk => by
    rw [nodesD_succ] at hm
    rcases List.mem_append.1 hm with hm | hm
    · obtain ⟨x, hx, hm⟩ := List.mem_flatMap.1 hm
      cases hd : x.2.1 with
      | true =>
        rw [hd, if_pos rfl] at hm
        obtain ⟨n', d', e, hs, hl⟩ := node_dir n x.1 hm hk
        refine ⟨n', d', e, fun q hq => nodesD_dir hx hd q (hs q hq), Nat.le_trans hl ?_⟩
        obtain ⟨s, t, hst⟩ := List.append_of_mem hx
        rw [relD_succ, hst, List.flatMap_append, List.flatMap_cons, List.length_append, List.length_append, List.length_cons, hd, if_pos rfl, List.length_map]
        omega
      | false =>
        rw [hd, if_neg (by simp)] at hm
        unfold nodesF at hm
        rcases List.mem_append.1 hm with hm | hm
        · obtain ⟨s, _, rfl⟩ := List.mem_map.1 hm
          simp at hk
        · rw [List.mem_singleton.1 hm] at hk
          simp [fileN] at hk
    · exact ⟨n + 1, d, List.mem_singleton.1 hm, fun _ h => h, Nat.le_refl _⟩
theorem top_not (hr : Ready pc l) (h1 : OneK (nodesD pc l 9 [])) : (⟨3, [], [], [(upN2, 3, false, keyN (dirN pc l 9 []))]⟩ : Nod) ∉ nodesD pc l 9 [] := by
  intro hm
  obtain ⟨n', d', e, hs, hl⟩ := node_dir 9 [] hm rfl
  cases n' with
  | zero =>
    have := congrArg Nod.ents e
    simp [dirN] at this
  | succ n =>
    have h2 : [(upN2, (3 : Int), false, keyN (dirN pc l 9 []))] = (inD l d').map (entK pc (fun p => keyN (dirN pc l n p))) := congrArg Nod.ents e
    obtain ⟨x, hx⟩ : ∃ x, inD l d' = [x] := by
      have := congrArg List.length h2
      rw [List.length_map] at this
      match hi : inD l d', this with
      | [x], _ => exact ⟨x, rfl⟩
    rw [hx] at h2
    simp only [List.map_cons, List.map_nil, List.cons.injEq, and_true, entK, Prod.mk.injEq] at h2
    obtain ⟨-, h3, -, h4⟩ := h2
    cases hd : x.2.1 with
    | false => rw [hd] at h3; simp at h3
    | true =>
      rw [hd, if_pos rfl] at h4
      have hxi : x ∈ inD l d' := by rw [hx]; exact List.mem_singleton.2 rfl
      have h5 := one_tree h1 hr hr 9 n [] x.1 (fun m hm => hm) (fun m hm => hs m (nodesD_dir hxi hd m hm)) h4
      have h6 : (relD l (n + 1) d').length = 1 + (relD l n x.1).length := by
        rw [relD_succ, hx]
        simp only [List.flatMap_cons, List.flatMap_nil, hd, if_true, List.append_nil, List.length_cons, List.length_map]
        omega
      rw [← h5] at h6
      omega
theorem objs_fit (h : Ready pc l) : fit5 (namesR (dirO pc l 9 [] [])) = true := (h.among 9 [] [] (.inl rfl) rfl ⟨rfl, by simp [namesR]⟩).1
/-- A tree's objects are those of a tree that has it in a directory; that has one more. -/
theorem parts_up_objs (hr : Ready pc l) (hm : Ready pc (mT l)) (hc : ¬ ClashP (rawsN (nodesD pc l 9 []) ++ rawsN (nodesD pc (mT l) 9 []))) :
    (∀ y ∈ dirO pc l 9 [] [], findR (dirO pc (mT l) 9 [] []) y.1 = some y.2) ∧ keyN (dirN pc (mT l) 9 []) ≠ keyN (dirN pc l 9 []) ∧ (dirO pc (mT l) 9 [] []).length = (dirO pc l 9 [] []).length + 1 := by
  have hf := nodesD_fit hr 9 []
  have h1 : OneK (nodesD pc l 9 [] ++ nodesD pc (mT l) 9 []) := one_of_clash (fun n hn => (List.mem_append.1 hn).elim (hf n) (nodesD_fit hm 9 [] n)) (by unfold rawsN at *; rw [List.map_append]; exact hc)
  have h2 : OneK (nodesD pc l 9 []) := fun a ha b hb => h1 a (List.mem_append_left _ ha) b (List.mem_append_left _ hb)
  obtain ⟨ht, hn⟩ := top_up hr hm
  have hno : keyN (dirN pc (mT l) 9 []) ∉ namesR (dirO pc l 9 [] []) := by
    intro hk
    rw [dirO_fold] at hk
    obtain ⟨y, hy, e⟩ := List.mem_map.1 hk
    rcases fold_mem _ hy with ⟨n, hn2, e2⟩ | hy
    · subst e2
      have := h1 n (List.mem_append_left _ hn2) _ (List.mem_append_right _ (nodesD_top 9 [])) e
      rw [this, ht] at hn2
      exact top_not hr h2 hn2
    · cases hy
  have hb : dirO pc (mT l) 9 [] [] = insR (dirO pc l 9 [] []) (keyN (dirN pc (mT l) 9 []), writeN (dirN pc (mT l) 9 [])) := by
    rw [dirO_fold, dirO_fold, hn, List.foldl_append, ← dirO_fold]
    show addO _ _ = _
    unfold addO
    rw [if_neg]
    rintro (h | h)
    · rw [findR_is (fit5_up12 (objs_fit hr))] at h
      exact hno (by simpa using h)
    · exact h (keyN_len (hm.dir 9 []))
  refine ⟨fun y hy => ?_, fun e => hno ?_, ?_⟩
  · rw [hb]
    exact (addO_finds (fit5_up12 (objs_fit hr)) hno).2 y hy
  · rw [e, dirO_fold]
    exact fold_key _ rfl hf _ (nodesD_top 9 [])
  · rw [hb]
    exact insO_len hno
end
end Go.Proofs.YtbmdoekfbkpaeaaGreatDoor
