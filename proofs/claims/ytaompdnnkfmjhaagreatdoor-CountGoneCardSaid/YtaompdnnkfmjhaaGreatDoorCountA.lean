/- Where no key is reached from itself the counts are those of the roots: plain. -/
import Derived.Test.YtaompdnnkfmjhaaGreatDoorJCSpread
import Derived.Test.YtaompdnnkfmjhaaGreatDoorJFetchB
namespace Go.Proofs.YtaompdnnkfmjhaaGreatDoor

section
variable {kids : List UInt8 → List (List UInt8)}
/-- Keys that name only ones of less rank. -/
structure RankK (kids : List UInt8 → List (List UInt8)) (rank : List UInt8 → Nat) : Prop where
  less : ∀ p k, k ∈ kids p → rank k < rank p
theorem Counts.reach {rs : List (List UInt8)} {c : List Cnt} (h : Counts kids rs c) {rank : List UInt8 → Nat} (hr : RankK kids rank) {P : List UInt8 → Prop} (h1 : ∀ k ∈ rs, P k) (h2 : ∀ p k, P p → k ∈ kids p → P k) (k : List UInt8) (hk : cntC c k ≠ 0) : P k := by
  obtain ⟨B, hB⟩ : ∃ B, ∀ x ∈ c.map (·.1), rank x ≤ B := by
    have : ∀ l : List (List UInt8), ∃ B, ∀ x ∈ l, rank x ≤ B := by
      intro l
      induction l with
      | nil => exact ⟨0, by simp⟩
      | cons x l ih =>
        obtain ⟨B, hB⟩ := ih
        exact ⟨rank x + B, fun y hy => (List.mem_cons.1 hy).elim (fun e => by rw [e]; omega) (fun h => by have := hB y h; omega)⟩
    exact this _
  have key : ∀ (m : Nat) (k : List UInt8), cntC c k ≠ 0 → B - rank k = m → P k := by
    intro m
    induction m using Nat.strongRecOn with
    | ind m ih =>
      intro k hk hm
      by_cases hin : k ∈ rs
      · exact h1 k hin
      · have h3 := h.eq k
        rw [List.count_eq_zero_of_not_mem hin] at h3
        have h4 : 0 < namesC kids c k := by omega
        unfold namesC at h4
        obtain ⟨p, hp⟩ := List.exists_mem_of_length_pos h4
        obtain ⟨hp1, hp2⟩ := List.mem_filter.1 hp
        have hp3 : k ∈ kids p := by simpa using hp2
        have hlt := hr.less p k hp3
        have hb := hB p hp1
        exact h2 p k (ih (B - rank p) (by omega) p ((cntC_pos h.fit).1 hp1) rfl) hp3
  exact key _ k hk rfl
/-- Counts of as many roots of each kind are the same. -/
theorem Counts.unique {rs rs' : List (List UInt8)} {c c' : List Cnt} (h : Counts kids rs c) (h' : Counts kids rs' c') {rank : List UInt8 → Nat} (hr : RankK kids rank) (he : ∀ k, rs.count k = rs'.count k) : c = c' := by
  have hsub : ∀ {r r' : List (List UInt8)} {d d' : List Cnt}, Counts kids r d → Counts kids r' d' → (∀ k, r.count k = r'.count k) → ∀ k, cntC d k ≠ 0 → cntC d' k ≠ 0 := by
    intro r r' d d' hd hd' hc k hk
    obtain ⟨c1, c2⟩ := hd'.closed
    refine hd.reach hr (P := fun k => cntC d' k ≠ 0) (fun k hk => c1 k ?_) (fun p k hp hk => c2 p k hp hk) k hk
    have h2 := List.count_pos_iff.2 hk
    rw [hc] at h2
    exact List.count_pos_iff.1 h2
  have hk : c.map (·.1) = c'.map (·.1) := up_ext h.fit.up h'.fit.up fun k => by
    rw [cntC_pos h.fit, cntC_pos h'.fit]
    exact ⟨hsub h h' he k, hsub h' h (fun k => (he k).symm) k⟩
  refine cnt_ext h.fit h'.fit fun k => ?_
  rw [h.eq, h'.eq, he]
  unfold namesC
  rw [hk]
/-- A root less: its run keeps this. -/
theorem Counts.minus_start {rs : List (List UInt8)} {c : List Cnt} {r : List UInt8} (h : Counts kids rs c) {rs' : List (List UInt8)} (he : ∀ k, rs.count k = rs'.count k + if k = r then 1 else 0) : FitCn c ∧ ∀ k, cntC c k = ([r].count k : Nat) + (rs'.count k + namesC kids c k : Nat) := by
  refine ⟨h.fit, fun k => ?_⟩
  have h1 := h.eq k
  rw [he] at h1
  have h2 : [r].count k = if k = r then 1 else 0 := by
    rw [List.count_cons, List.count_nil]
    by_cases e : k = r
    · subst e; simp
    · have e2 : r ≠ k := fun h => e h.symm
      simp [e, e2]
  rw [h2]
  omega
theorem minus_iter (hkd : ∀ k, (kids k).Nodup) {rs : List (List UInt8)} : ∀ (n : Nat) {s : QC}, (FitCn s.2 ∧ ∀ k, cntC s.2 k = s.1.count k + (rs.count k + namesC kids s.2 k : Nat)) → FitCn (iterQ (minusS kids) n s).2 ∧ ∀ k, cntC (iterQ (minusS kids) n s).2 k = (iterQ (minusS kids) n s).1.count k + (rs.count k + namesC kids (iterQ (minusS kids) n s).2 k : Nat)
  | 0, _, h => h
  | n + 1, _, h => minus_iter hkd n (minusS_eq hkd h)
theorem minus_end {rs : List (List UInt8)} {c : List Cnt} (h : FitCn c ∧ ∀ k, cntC c k = (([] : List (List UInt8)).count k : Nat) + (rs.count k + namesC kids c k : Nat)) : Counts kids rs c := ⟨h.1, fun k => by have := h.2 k; simp at this; omega⟩
end

/-! A tree's objects name only ones that came ahead. -/
inductive GoodO : List Nod → Prop
  | nil : GoodO []
  | snoc {a : List Nod} {n : Nod} : GoodO a → (∀ k ∈ kidsN n, ∃ q ∈ a, keyN q = k) → GoodO (a ++ [n])
theorem GoodO.app {a b : List Nod} (ha : GoodO a) (hb : GoodO b) : GoodO (a ++ b) := by
  induction hb with
  | nil => rw [List.append_nil]; exact ha
  | snoc _ hk ih =>
    rw [← List.append_assoc]
    exact ih.snoc fun k hk2 => by
      obtain ⟨q, hq, e⟩ := hk k hk2
      exact ⟨q, List.mem_append_right _ hq, e⟩
theorem GoodO.one {n : Nod} (h : kidsN n = []) : GoodO [n] := GoodO.nil.snoc (a := []) fun k hk => by rw [h] at hk; cases hk
theorem piece_kids (s : List UInt8) : kidsN (pieceN s) = [] := by
  unfold kidsN
  rw [List.eq_nil_iff_forall_not_mem]
  intro k hk
  have := (setOf_mem.1 hk).1
  simp [kidsL] at this
theorem good_file (ps : List (List UInt8)) : GoodO (nodesF ps) := by
  unfold nodesF
  have h1 : ∀ t : List (List UInt8), GoodO (t.map pieceN) := by
    intro t
    induction t with
    | nil => exact GoodO.nil
    | cons s t ih => exact GoodO.app (a := [pieceN s]) (GoodO.one (piece_kids s)) ih
  refine (h1 ps).snoc fun k hk => ?_
  unfold kidsN at hk
  obtain ⟨hk, -⟩ := setOf_mem.1 hk
  simp only [kidsL, fileN, List.map_map, List.map_nil, List.append_nil] at hk
  obtain ⟨s, hs, rfl⟩ := List.mem_map.1 hk
  exact ⟨pieceN s, List.mem_map.2 ⟨s, hs, rfl⟩, rfl⟩
section
variable {pc : List UInt8 → List (List UInt8)} {items : List Itm}
theorem good_dir : ∀ (n : Nat) (d : List UInt8), GoodO (nodesD pc items n d)
  | 0, _ => GoodO.one (by
    unfold kidsN
    rw [List.eq_nil_iff_forall_not_mem]
    intro k hk
    have := (setOf_mem.1 hk).1
    simp [kidsL] at this)
  | n + 1, d => by
    rw [nodesD_succ]
    have h1 : ∀ t : List Itm, GoodO (nodesS pc items n t) := by
      intro t
      induction t with
      | nil => exact GoodO.nil
      | cons x t ih =>
        have e : nodesS pc items n (x :: t) = (if x.2.1 = true then nodesD pc items n x.1 else nodesF (pc x.2.2.2)) ++ nodesS pc items n t := by unfold nodesS; rw [List.flatMap_cons]
        rw [e]
        refine GoodO.app ?_ ih
        split
        · exact good_dir n x.1
        · exact good_file _
    refine (h1 (inD items d)).snoc fun k hk => ?_
    unfold kidsN at hk
    obtain ⟨hk, -⟩ := setOf_mem.1 hk
    simp only [kidsL, dirN, List.map_map, List.map_nil, List.nil_append] at hk
    obtain ⟨x, hx, rfl⟩ := List.mem_map.1 hk
    cases hd : x.2.1 with
    | true => exact ⟨dirN pc items n x.1, List.mem_flatMap.2 ⟨x, hx, by rw [hd, if_pos rfl]; exact nodesD_top n x.1⟩, by simp [entK, hd]⟩
    | false => exact ⟨fileN (pc x.2.2.2), List.mem_flatMap.2 ⟨x, hx, by rw [hd, if_neg (by simp)]; exact List.mem_append_right _ (List.mem_singleton.2 rfl)⟩, by simp [entK, hd]⟩
end
/-- Objects whose keys name only ones of less rank. -/
structure RankO (o : List Snp) (rank : List UInt8 → Nat) (B : Nat) : Prop where
  lt : ∀ k ∈ namesR o, rank k < B
  kid : ∀ k ∈ namesR o, ∀ j ∈ kidsO o k, j ∈ namesR o ∧ rank j < rank k
theorem find_some {o : List Snp} (hu : upS (namesR o)) {k : List UInt8} (h : k ∈ namesR o) : ∃ r, findR o k = some r := by
  have h1 := findR_is hu (n := k)
  rw [decide_eq_true h] at h1
  exact Option.isSome_iff_exists.1 h1
theorem kids_same {o o' : List Snp} {k : List UInt8} (h : findR o k = findR o' k) : kidsO o k = kidsO o' k := by unfold kidsO; rw [h]
theorem good_ranked {ns : List Nod} (h : GoodO ns) (hf : ∀ n ∈ ns, FitN n) : ∃ rank B, RankO (ns.foldl putN []) rank B := by
  induction h with
  | nil => exact ⟨fun _ => 0, 0, ⟨by simp [namesR], by simp [namesR]⟩⟩
  | snoc ha hk ih =>
    rename_i a n
    obtain ⟨rank, B, hr⟩ := ih fun m hm => hf m (List.mem_append_left _ hm)
    have hfa : ∀ m ∈ a, FitN m := fun m hm => hf m (List.mem_append_left _ hm)
    have hn := hf n (List.mem_append_right _ (List.mem_singleton.2 rfl))
    have h5 : fit5 (namesR (a.foldl putN [])) = true := fold_fit a rfl
    have hu := fit5_up12 h5
    rw [List.foldl_append]
    show ∃ rank B, RankO (putN (a.foldl putN []) n) rank B
    generalize ho : a.foldl putN [] = o at *
    by_cases hin : keyN n ∈ namesR o
    · have e : putN o n = o := by
        unfold putN addO
        rw [if_pos (.inl (by rw [findR_is hu]; simpa using hin))]
      rw [e]
      exact ⟨rank, B, hr⟩
    · have e : putN o n = insR o (keyN n, writeN n) := by
        unfold putN addO
        rw [if_neg]
        rintro (h | h)
        · rw [findR_is hu] at h; exact hin (by simpa using h)
        · exact h (keyN_len hn)
      have hu2 : upS (namesR (putN o n)) := fit5_up12 (addO_fit h5)
      have hmem : ∀ k, k ∈ namesR (putN o n) ↔ k = keyN n ∨ k ∈ namesR o := fun k => by
        rw [e]
        constructor
        · intro hk2
          obtain ⟨y, hy, rfl⟩ := List.mem_map.1 hk2
          rcases mem_insO.1 hy with rfl | hy
          · exact .inl rfl
          · exact .inr (List.mem_map.2 ⟨y, hy, rfl⟩)
        · rintro (rfl | hk2)
          · exact List.mem_map.2 ⟨_, mem_insO.2 (.inl rfl), rfl⟩
          · obtain ⟨y, hy, rfl⟩ := List.mem_map.1 hk2
            exact List.mem_map.2 ⟨y, mem_insO.2 (.inr hy), rfl⟩
      have hnew : findR (putN o n) (keyN n) = some (writeN n) := by rw [e]; exact (addO_finds hu (x := (keyN n, writeN n)) hin).1
      have hold : ∀ k ∈ namesR o, findR (putN o n) k = findR o k := fun k hk2 => by
        obtain ⟨r, hr2⟩ := find_some hu hk2
        rw [hr2]
        exact find_add hu hr2
      have hkn : kidsO (putN o n) (keyN n) = kidsN n := (kids_of hn hnew).1
      have hkids : ∀ j ∈ kidsN n, j ∈ namesR o := fun j hj => by
        obtain ⟨q, hq, rfl⟩ := hk j hj
        rw [← ho]
        exact fold_key a rfl hfa q hq
      have hne : ∀ k ∈ namesR o, k ≠ keyN n := fun k hk2 e2 => hin (e2 ▸ hk2)
      refine ⟨fun k => if k = keyN n then B else rank k, B + 1, ⟨fun k hk2 => ?_, fun k hk2 j hj => ?_⟩⟩
      · rcases (hmem k).1 hk2 with rfl | hk2
        · rw [if_pos rfl]; omega
        · rw [if_neg (hne k hk2)]; have := hr.lt k hk2; omega
      · rcases (hmem k).1 hk2 with rfl | hk2
        · rw [hkn] at hj
          have hjo := hkids j hj
          exact ⟨(hmem j).2 (.inr hjo), by rw [if_pos rfl, if_neg (hne j hjo)]; exact hr.lt j hjo⟩
        · rw [kids_same (hold k hk2)] at hj
          obtain ⟨h1, h2⟩ := hr.kid k hk2 j hj
          exact ⟨(hmem j).2 (.inr h1), by rw [if_neg (hne j h1), if_neg (hne k hk2)]; exact h2⟩
theorem RankO.ranks {o : List Snp} {rank : List UInt8 → Nat} {B : Nat} (h : RankO o rank B) : RankK (kidsO o) rank := ⟨fun p k hk => by
  by_cases hp : p ∈ namesR o
  · exact (h.kid p hp k hk).2
  · exfalso
    unfold kidsO at hk
    rw [findR_none hp] at hk
    rw [show rootOf none = [] from rfl, kidsR_nil] at hk
    cases hk⟩

/-! Objects of two trees. -/
theorem fold_add_find : ∀ (y : List Snp) {x : List Snp}, fit5 (namesR x) = true → (∀ z ∈ y, z.1.length = 32) → (y.map (·.1)).Nodup → fit5 (namesR (y.foldl addO x)) = true ∧ (∀ k ∈ namesR x, findR (y.foldl addO x) k = findR x k) ∧ (∀ z ∈ y, z.1 ∉ namesR x → findR (y.foldl addO x) z.1 = some z.2) ∧ ∀ k, k ∈ namesR (y.foldl addO x) ↔ k ∈ namesR x ∨ k ∈ y.map (·.1)
  | [], x, hx, _, _ => ⟨hx, fun _ _ => rfl, by simp, by simp⟩
  | z :: y, x, hx, h32, hnd => by
    have hu := fit5_up12 hx
    rw [List.map_cons, List.nodup_cons] at hnd
    obtain ⟨i1, i2, i3, i4⟩ := fold_add_find y (x := addO x z) (addO_fit hx) (fun w hw => h32 w (List.mem_cons_of_mem _ hw)) hnd.2
    have hmem : ∀ k, k ∈ namesR (addO x z) ↔ k ∈ namesR x ∨ k = z.1 := fun k => by
      unfold addO
      split
      · rename_i h
        rcases h with h | h
        · rw [findR_is hu] at h
          have hz : z.1 ∈ namesR x := by simpa using h
          exact ⟨.inl, fun h => h.elim id (fun e => e ▸ hz)⟩
        · exact absurd (h32 z List.mem_cons_self) h
      · constructor
        · intro hk
          obtain ⟨w, hw, rfl⟩ := List.mem_map.1 hk
          rcases mem_insO.1 hw with rfl | hw
          · exact .inr rfl
          · exact .inl (List.mem_map.2 ⟨w, hw, rfl⟩)
        · rintro (hk | rfl)
          · obtain ⟨w, hw, rfl⟩ := List.mem_map.1 hk
            exact List.mem_map.2 ⟨w, mem_insO.2 (.inr hw), rfl⟩
          · exact List.mem_map.2 ⟨z, mem_insO.2 (.inl rfl), rfl⟩
    have hold : ∀ k ∈ namesR x, findR (addO x z) k = findR x k := fun k hk => by
      obtain ⟨r, hr⟩ := find_some hu hk
      rw [hr]
      exact find_add hu hr
    refine ⟨i1, fun k hk => (i2 k ((hmem k).2 (.inl hk))).trans (hold k hk), fun w hw hwx => ?_, fun k => ?_⟩
    · rcases List.mem_cons.1 hw with rfl | hw
      · refine (i2 w.1 ((hmem w.1).2 (.inr rfl))).trans ?_
        unfold addO
        rw [if_neg]
        · exact (addO_finds hu hwx).1
        · rintro (h | h)
          · rw [findR_is hu] at h; exact hwx (by simpa using h)
          · exact h (h32 w List.mem_cons_self)
      · refine i3 w hw fun h => ?_
        rcases (hmem w.1).1 h with h | h
        · exact hwx h
        · exact hnd.1 (h ▸ List.mem_map.2 ⟨w, hw, rfl⟩)
    · rw [List.foldl_cons, i4, hmem, List.map_cons, List.mem_cons, or_assoc]
theorem two_ranked {x y : List Snp} {rx ry : List UInt8 → Nat} {Bx By : Nat} (hx : fit5 (namesR x) = true) (hy : fit5 (namesR y) = true) (h1 : RankO x rx Bx) (h2 : RankO y ry By) : ∃ rank B, RankO (y.foldl addO x) rank B := by
  obtain ⟨i1, i2, i3, i4⟩ := fold_add_find y hx (fun z hz => fit5_len12 hy _ (List.mem_map.2 ⟨z, hz, rfl⟩)) (up_nodup (fit5_up12 hy))
  have hyn : ∀ k ∈ namesR y, k ∉ namesR x → findR (y.foldl addO x) k = findR y k := fun k hk hkx => by
    obtain ⟨z, hz, rfl⟩ := List.mem_map.1 hk
    rw [i3 z hz hkx, find_mem (fit5_up12 hy) z hz]
  refine ⟨fun k => if k ∈ namesR x then rx k else Bx + ry k, Bx + By, ⟨fun k hk => ?_, fun k hk j hj => ?_⟩⟩
  · by_cases hkx : k ∈ namesR x
    · rw [if_pos hkx]; have := h1.lt k hkx; omega
    · rw [if_neg hkx]
      rcases (i4 k).1 hk with h | h
      · exact absurd h hkx
      · have := h2.lt k h; omega
  · by_cases hkx : k ∈ namesR x
    · rw [kids_same (i2 k hkx)] at hj
      obtain ⟨a1, a2⟩ := h1.kid k hkx j hj
      exact ⟨(i4 j).2 (.inl a1), by rw [if_pos hkx, if_pos a1]; exact a2⟩
    · have hky : k ∈ namesR y := ((i4 k).1 hk).elim (fun h => absurd h hkx) id
      rw [kids_same (hyn k hky hkx)] at hj
      obtain ⟨a1, a2⟩ := h2.kid k hky j hj
      refine ⟨(i4 j).2 (.inr a1), ?_⟩
      rw [if_neg hkx]
      by_cases hjx : j ∈ namesR x
      · rw [if_pos hjx]; have := h1.lt j hjx; omega
      · rw [if_neg hjx]; omega
end Go.Proofs.YtaompdnnkfmjhaaGreatDoor
