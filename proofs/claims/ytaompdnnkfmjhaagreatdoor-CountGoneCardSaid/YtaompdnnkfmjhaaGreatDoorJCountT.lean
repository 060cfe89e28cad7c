/- Counts: how a key's count changes; a root more, a root less: plain. A root more, a root less, step by step; what the counts are then: plain. -/
import Derived.Test.YtaompdnnkfmjhaaGreatDoorJKSet
namespace Go.Proofs.YtaompdnnkfmjhaaGreatDoor

abbrev Cnt := List UInt8 × Int
def cntC (c : List Cnt) (k : List UInt8) : Int := match c.find? (fun y => y.1 == k) with | some y => y.2 | none => 0
structure FitCn (c : List Cnt) : Prop where
  up : upS (c.map (·.1))
  pos : ∀ y ∈ c, 1 ≤ y.2
/-- The document's change of a count. -/
def chgGo (k : List UInt8) (by_ : Int) : Bool → List Cnt → List Cnt
  | done, [] => if done = true then [] else [(k, by_)]
  | done, x :: c =>
    (if done = false ∧ k < x.1 then [(k, by_)] else []) ++ ((if 0 < (if x.1 = k then x.2 + by_ else x.2) then [(x.1, if x.1 = k then x.2 + by_ else x.2)] else []) ++ chgGo k by_ (done || decide (k < x.1) || decide (x.1 = k)) c)
def chgC (c : List Cnt) (k : List UInt8) (by_ : Int) : List Cnt := chgGo k by_ false c

theorem cntC_none {c : List Cnt} {k : List UInt8} (h : k ∉ c.map (·.1)) : cntC c k = 0 := by
  unfold cntC
  rw [List.find?_eq_none.2]
  intro y hy e
  exact h (List.mem_map.2 ⟨y, hy, by simpa using e⟩)
theorem cntC_cons (x : Cnt) (c : List Cnt) (k : List UInt8) : cntC (x :: c) k = if x.1 = k then x.2 else cntC c k := by
  unfold cntC
  by_cases h : x.1 = k
  · rw [List.find?_cons_of_pos (by simpa using h), if_pos h]
  · rw [List.find?_cons_of_neg (by simpa using h), if_neg h]
theorem cntC_pos {c : List Cnt} (hc : FitCn c) {k : List UInt8} : k ∈ c.map (·.1) ↔ cntC c k ≠ 0 := by
  constructor
  · intro h
    obtain ⟨y, hy, e⟩ := List.mem_map.1 h
    unfold cntC
    cases hf : c.find? (fun y => y.1 == k) with
    | none =>
      have := List.find?_eq_none.1 hf y hy
      simp [e] at this
    | some z =>
      have := hc.pos z (List.mem_of_find?_eq_some hf)
      show z.2 ≠ 0
      omega
  · intro h
    refine Classical.byContradiction fun hn => h (cntC_none hn)
theorem cntC_nonneg {c : List Cnt} (hc : FitCn c) (k : List UInt8) : 0 ≤ cntC c k := by
  unfold cntC
  cases hf : c.find? (fun y => y.1 == k) with
  | none => exact Int.le_refl _
  | some z =>
    have := hc.pos z (List.mem_of_find?_eq_some hf)
    show 0 ≤ z.2
    omega
theorem FitCn.tail {x : Cnt} {c : List Cnt} (h : FitCn (x :: c)) : FitCn c ∧ ∀ y ∈ c, x.1 < y.1 := by
  have h1 := h.up
  unfold upS at h1
  rw [List.map_cons, List.pairwise_cons] at h1
  exact ⟨⟨h1.2, fun y hy => h.pos y (List.mem_cons_of_mem _ hy)⟩, fun y hy => h1.1 _ (List.mem_map.2 ⟨y, hy, rfl⟩)⟩
theorem FitCn.cons {x : Cnt} {c : List Cnt} (h : FitCn c) (hx : 1 ≤ x.2) (hl : ∀ y ∈ c, x.1 < y.1) : FitCn (x :: c) := by
  refine ⟨?_, fun y hy => (List.mem_cons.1 hy).elim (fun e => e ▸ hx) (h.pos y)⟩
  unfold upS
  rw [List.map_cons]
  exact List.pairwise_cons.2 ⟨fun p hp => by obtain ⟨y, hy, rfl⟩ := List.mem_map.1 hp; exact hl y hy, h.up⟩
theorem key_lt {c : List Cnt} {k : List UInt8} (h : ∀ y ∈ c, k < y.1) : k ∉ c.map (·.1) := by
  intro hk
  obtain ⟨y, hy, e⟩ := List.mem_map.1 hk
  have := h y hy
  rw [e] at this
  exact List.lt_irrefl _ this
/-- Behind the key nothing changes. -/
theorem chgGo_done {k : List UInt8} {by_ : Int} : ∀ {c : List Cnt}, FitCn c → (∀ y ∈ c, k < y.1) → chgGo k by_ true c = c
  | [], _, _ => rfl
  | x :: c, h, hk => by
    have hx := hk x List.mem_cons_self
    have hne : x.1 ≠ k := fun e => by rw [e] at hx; exact List.lt_irrefl _ hx
    have hp := h.pos x List.mem_cons_self
    unfold chgGo
    rw [if_neg (by simp), if_neg hne, if_pos (by omega)]
    simp only [Bool.true_or]
    rw [chgGo_done h.tail.1 (fun y hy => hk y (List.mem_cons_of_mem _ hy))]
    rfl
/-- A change, as counts: where it can be. -/
theorem chgGo_spec {k : List UInt8} {by_ : Int} : ∀ {c : List Cnt}, FitCn c → (1 ≤ by_ ∨ (k ∈ c.map (·.1) ∧ 0 ≤ cntC c k + by_)) → FitCn (chgGo k by_ false c) ∧ (∀ k', cntC (chgGo k by_ false c) k' = if k' = k then cntC c k + by_ else cntC c k') ∧ ∀ y ∈ chgGo k by_ false c, y.1 = k ∨ ∃ z ∈ c, z.1 = y.1
  | [], _, hb => by
    have h1 : 1 ≤ by_ := hb.elim id (fun h => by simp at h)
    refine ⟨FitCn.cons ⟨List.Pairwise.nil, by simp⟩ h1 (by simp), fun k' => ?_, fun y hy => .inl (by
      have : y = (k, by_) := by simpa [chgGo] using hy
      rw [this])⟩
    show cntC [(k, by_)] k' = _
    rw [cntC_cons]
    by_cases h : k = k'
    · subst h; simp [cntC]
    · rw [if_neg h, if_neg (fun e => h e.symm)]
  | x :: c, hc, hb => by
    obtain ⟨ht, hl⟩ := hc.tail
    have hp := hc.pos x List.mem_cons_self
    by_cases h1 : k < x.1
    · have hne : x.1 ≠ k := fun e => by rw [e] at h1; exact List.lt_irrefl _ h1
      have hall : ∀ y ∈ x :: c, k < y.1 := fun y hy => (List.mem_cons.1 hy).elim (fun e => e ▸ h1) (fun h => List.lt_trans h1 (hl y h))
      have hb1 : 1 ≤ by_ := hb.elim id (fun h => absurd h.1 (key_lt hall))
      have e : chgGo k by_ false (x :: c) = (k, by_) :: x :: c := by
        unfold chgGo
        rw [if_pos ⟨rfl, h1⟩, if_neg hne, if_pos (by omega)]
        simp only [decide_eq_true h1, Bool.false_or, Bool.true_or]
        rw [chgGo_done ht (fun y hy => hall y (List.mem_cons_of_mem _ hy))]
        rfl
      rw [e]
      refine ⟨hc.cons hb1 hall, fun k' => ?_, fun y hy => ?_⟩
      · rw [cntC_cons]
        by_cases h : k = k'
        · subst h
          rw [if_pos rfl, if_pos rfl, cntC_none (key_lt hall)]; simp
        · rw [if_neg h, if_neg (fun e => h e.symm)]
      · rcases List.mem_cons.1 hy with rfl | hy
        · exact .inl rfl
        · exact .inr ⟨y, hy, rfl⟩
    · by_cases h2 : x.1 = k
      · have hl2 : ∀ y ∈ c, k < y.1 := by rw [← h2]; exact hl
        have hcx : cntC (x :: c) k = x.2 := by rw [cntC_cons, if_pos h2]
        have e : chgGo k by_ false (x :: c) = (if 0 < x.2 + by_ then [(x.1, x.2 + by_)] else []) ++ c := by
          unfold chgGo
          rw [if_neg (fun h => h1 h.2)]
          simp only [if_pos h2, decide_eq_true h2, Bool.or_true]
          rw [chgGo_done ht hl2]
          rfl
        rw [e]
        by_cases h3 : 0 < x.2 + by_
        · rw [if_pos h3]
          refine ⟨ht.cons (by show 1 ≤ x.2 + by_; omega) hl, fun k' => ?_, fun y hy => ?_⟩
          · show cntC ((x.1, x.2 + by_) :: c) k' = _
            rw [cntC_cons, cntC_cons, cntC_cons, if_pos h2]
            by_cases h : x.1 = k'
            · rw [if_pos h, if_pos (h ▸ h2)]
            · rw [if_neg h, if_neg (fun e => h (h2.trans e.symm)), if_neg h]
          · rcases List.mem_cons.1 hy with rfl | hy
            · exact .inl h2
            · exact .inr ⟨y, List.mem_cons_of_mem _ hy, rfl⟩
        · rw [if_neg h3, List.nil_append]
          refine ⟨ht, fun k' => ?_, fun y hy => .inr ⟨y, List.mem_cons_of_mem _ hy, rfl⟩⟩
          rw [cntC_cons, cntC_cons, if_pos h2]
          have h0 : x.2 + by_ = 0 := by
            rcases hb with hb | hb
            · omega
            · rw [hcx] at hb; omega
          by_cases h : k' = k
          · subst h
            rw [if_pos rfl, h0]
            exact cntC_none (key_lt hl2)
          · rw [if_neg h, if_neg (fun e => h (e.symm.trans h2))]
      · have hb2 : 1 ≤ by_ ∨ (k ∈ c.map (·.1) ∧ 0 ≤ cntC c k + by_) := by
          rcases hb with hb | ⟨hb1, hb2⟩
          · exact .inl hb
          · rw [cntC_cons, if_neg h2] at hb2
            rw [List.map_cons] at hb1
            exact .inr ⟨(List.mem_cons.1 hb1).elim (fun e => absurd e.symm h2) id, hb2⟩
        obtain ⟨s1, s2, s3⟩ := chgGo_spec ht hb2
        have hxk : x.1 < k := by
          refine Classical.byContradiction fun h => h2 ?_
          exact List.le_antisymm (List.not_lt.1 h1) (List.not_lt.1 h)
        have e : chgGo k by_ false (x :: c) = x :: chgGo k by_ false c := by
          conv => lhs; unfold chgGo
          rw [if_neg (fun h => h1 h.2), if_neg h2, if_pos (by omega)]
          simp only [decide_eq_false h1, decide_eq_false h2, Bool.or_false]
          rfl
        rw [e]
        refine ⟨s1.cons hp fun y hy => ?_, fun k' => ?_, fun y hy => ?_⟩
        · rcases s3 y hy with e1 | ⟨z, hz, e1⟩
          · rw [e1]; exact hxk
          · rw [← e1]; exact hl z hz
        · rw [cntC_cons, cntC_cons, cntC_cons, if_neg h2, s2]
          by_cases h : x.1 = k'
          · rw [if_pos h, if_pos h, if_neg (fun e => h2 (h.trans e))]
          · rw [if_neg h, if_neg h]
        · rcases List.mem_cons.1 hy with rfl | hy
          · exact .inr ⟨y, List.mem_cons_self, rfl⟩
          · rcases s3 y hy with e1 | ⟨z, hz, e1⟩
            · exact .inl e1
            · exact .inr ⟨z, List.mem_cons_of_mem _ hz, e1⟩
/-- Counts with the same numbers are the same. -/
theorem cnt_ext {a b : List Cnt} (ha : FitCn a) (hb : FitCn b) (h : ∀ k, cntC a k = cntC b k) : a = b := by
  have hk : a.map (·.1) = b.map (·.1) := up_ext ha.up hb.up fun k => by rw [cntC_pos ha, cntC_pos hb, h]
  have hv : ∀ {l : List Cnt}, FitCn l → ∀ y ∈ l, y.2 = cntC l y.1 := by
    intro l hl
    induction l with
    | nil => simp
    | cons x l ih =>
      intro y hy
      obtain ⟨ht, hlt⟩ := hl.tail
      rw [cntC_cons]
      rcases List.mem_cons.1 hy with rfl | hy
      · rw [if_pos rfl]
      · rw [if_neg (fun e => by have := hlt y hy; rw [e] at this; exact List.lt_irrefl _ this), ih ht y hy]
  have hl : a.length = b.length := by have := congrArg List.length hk; simpa using this
  refine List.ext_getElem hl fun i h1 h2 => ?_
  have e1 : a[i].1 = b[i].1 := by
    have h3 : (a.map (·.1))[i]'(by simpa using h1) = (b.map (·.1))[i]'(by simpa using h2) := by simp only [hk]
    simpa using h3
  refine Prod.ext e1 ?_
  rw [hv ha _ (List.getElem_mem h1), hv hb _ (List.getElem_mem h2), h, e1]
end Go.Proofs.YtaompdnnkfmjhaaGreatDoor

namespace Go.Proofs.YtaompdnnkfmjhaaGreatDoor

abbrev QC := List (List UInt8) × List Cnt
section
variable (kids : List UInt8 → List (List UInt8))
/-- One step of a root more. -/
def plusS : QC → QC
  | ([], c) => ([], c)
  | (k :: qs, c) => (if cntC c k = 0 then qs ++ kids k else qs, chgC c k 1)
/-- One step of a root less. -/
def minusS : QC → QC
  | ([], c) => ([], c)
  | (k :: qs, c) => if cntC c k = 0 then (qs, c) else (if cntC (chgC c k (-1)) k = 0 then qs ++ kids k else qs, chgC c k (-1))
def iterQ (f : QC → QC) : Nat → QC → QC
  | 0, s => s
  | n + 1, s => iterQ f n (f s)
end
section
variable {kids : List UInt8 → List (List UInt8)}
theorem iterQ_add (f : QC → QC) : ∀ (n m : Nat) (s : QC), iterQ f (n + m) s = iterQ f m (iterQ f n s)
  | 0, m, s => by rw [Nat.zero_add]; rfl
  | n + 1, m, s => by rw [Nat.add_right_comm]; exact iterQ_add f n m (f s)
theorem iterQ_fix {f : QC → QC} {s : QC} (h : f s = s) : ∀ n, iterQ f n s = s
  | 0 => rfl
  | n + 1 => by show iterQ f n (f s) = s; rw [h]; exact iterQ_fix h n
/-- The end does not hang on how many steps there are. -/
theorem iterQ_end {f : QC → QC} (hf : ∀ c, f ([], c) = ([], c)) {s : QC} {n m : Nat} {c c' : List Cnt} (h : iterQ f n s = ([], c)) (h' : iterQ f m s = ([], c')) : c = c' := by
  rcases Nat.le_total n m with hl | hl
  · obtain ⟨d, rfl⟩ := Nat.exists_eq_add_of_le hl
    rw [iterQ_add, h, iterQ_fix (hf c)] at h'
    exact congrArg Prod.snd h'
  · obtain ⟨d, rfl⟩ := Nat.exists_eq_add_of_le hl
    rw [iterQ_add, h', iterQ_fix (hf c')] at h
    exact (congrArg Prod.snd h).symm
theorem iterQ_snoc (f : QC → QC) (n : Nat) (s : QC) : iterQ f (n + 1) s = f (iterQ f n s) := iterQ_add f n 1 s

theorem chg_plus {c : List Cnt} (hc : FitCn c) (k : List UInt8) : FitCn (chgC c k 1) ∧ ∀ k', cntC (chgC c k 1) k' = if k' = k then cntC c k + 1 else cntC c k' :=
  let h := chgGo_spec hc (.inl (Int.le_refl 1)) (k := k)
  ⟨h.1, h.2.1⟩
theorem chg_minus {c : List Cnt} (hc : FitCn c) {k : List UInt8} (hk : cntC c k ≠ 0) : FitCn (chgC c k (-1)) ∧ ∀ k', cntC (chgC c k (-1)) k' = if k' = k then cntC c k - 1 else cntC c k' :=
  let h := chgGo_spec hc (k := k) (by_ := -1) (.inr ⟨(cntC_pos hc).2 hk, by have := cntC_nonneg hc k; omega⟩)
  ⟨h.1, fun k' => by rw [show chgC c k (-1) = chgGo k (-1) false c from rfl, h.2.1 k']; rfl⟩

/-! How long it goes on. -/
/-- What still may come up, of a universe of keys. -/
def leftQ (kids : List UInt8 → List (List UInt8)) (U : List (List UInt8)) (z : Bool) (c : List Cnt) : Nat := (U.map fun k => if (cntC c k == 0) = z then (kids k).length else 0).sum
theorem leftQ_same {U : List (List UInt8)} {z : Bool} {c c' : List Cnt} (h : ∀ k ∈ U, (cntC c k == 0) = (cntC c' k == 0)) : leftQ kids U z c = leftQ kids U z c' := by
  unfold leftQ
  congr 1
  exact List.map_congr_left fun k hk => by rw [h k hk]
theorem leftQ_less {U : List (List UInt8)} {z : Bool} {c c' : List Cnt} {k : List UInt8} (hU : U.Nodup) (hk : k ∈ U) (h1 : (cntC c k == 0) = z) (h2 : (cntC c' k == 0) = !z) (h : ∀ k' ∈ U, k' ≠ k → (cntC c k' == 0) = (cntC c' k' == 0)) : leftQ kids U z c = leftQ kids U z c' + (kids k).length := by
  induction U with
  | nil => cases hk
  | cons u U ih =>
    rw [List.nodup_cons] at hU
    have e : ∀ d, leftQ kids (u :: U) z d = (if (cntC d u == 0) = z then (kids u).length else 0) + leftQ kids U z d := fun d => by unfold leftQ; rw [List.map_cons, List.sum_cons]
    rw [e, e]
    by_cases hu : u = k
    · subst hu
      rw [if_pos h1, if_neg (by rw [h2]; cases z <;> simp), leftQ_same (fun k' hk' => h k' (List.mem_cons_of_mem _ hk') (fun e => hU.1 (e ▸ hk')))]
      omega
    · have hk2 : k ∈ U := (List.mem_cons.1 hk).elim (fun e => absurd e.symm hu) id
      rw [ih hU.2 hk2 (fun k' hk' hne => h k' (List.mem_cons_of_mem _ hk') hne), h u List.mem_cons_self hu]
      omega
def sizeQ (kids : List UInt8 → List (List UInt8)) (U : List (List UInt8)) (z : Bool) (s : QC) : Nat := s.1.length + leftQ kids U z s.2
theorem plusS_size {U : List (List UInt8)} (hU : U.Nodup) (hk : ∀ k, k ∉ U → kids k = []) {k : List UInt8} {qs : List (List UInt8)} {c : List Cnt} (hc : FitCn c) : sizeQ kids U true (plusS kids (k :: qs, c)) + 1 = sizeQ kids U true (k :: qs, c) := by
  have hch := (chg_plus hc k).2
  have hnn := cntC_nonneg hc k
  unfold sizeQ plusS
  simp only
  by_cases h0 : cntC c k = 0
  · rw [if_pos h0]
    by_cases hkU : k ∈ U
    · have hl := leftQ_less (kids := kids) (z := true) (c := c) (c' := chgC c k 1) hU hkU (by rw [h0]; rfl) (by rw [hch, if_pos rfl, h0]; rfl) (fun k' _ hne => by rw [hch, if_neg hne])
      rw [hl, List.length_append, List.length_cons]; omega
    · rw [hk k hkU, List.append_nil, List.length_cons, leftQ_same (c := chgC c k 1) (c' := c) (fun k' hk' => by
        have hne : k' ≠ k := by rintro rfl; exact hkU hk'
        rw [hch, if_neg hne])]
      omega
  · rw [if_neg h0, List.length_cons, leftQ_same (c := chgC c k 1) (c' := c) (fun k' hk' => by
      rw [hch]
      by_cases e : k' = k
      · subst e
        rw [if_pos rfl, beq_eq_false_iff_ne.2 (by omega), beq_eq_false_iff_ne.2 h0]
      · rw [if_neg e])]
    omega

/-! What the counts are. -/
/-- How many of the keys that are counted name a key. -/
def namesC (kids : List UInt8 → List (List UInt8)) (c : List Cnt) (k : List UInt8) : Nat := ((c.map (·.1)).filter (fun p => decide (k ∈ kids p))).length
theorem namesC_same {c c' : List Cnt} (hc : FitCn c) (hc' : FitCn c') (h : ∀ k, cntC c k = 0 ↔ cntC c' k = 0) (k : List UInt8) : namesC kids c k = namesC kids c' k := by
  have : c.map (·.1) = c'.map (·.1) := up_ext hc.up hc'.up fun x => by rw [cntC_pos hc, cntC_pos hc']; exact not_congr (h x)
  unfold namesC
  rw [this]
theorem namesC_more {c c' : List Cnt} {p : List UInt8} (hc : FitCn c) (hc' : FitCn c') (h0 : cntC c p = 0) (h1 : cntC c' p ≠ 0) (h : ∀ k, k ≠ p → (cntC c k = 0 ↔ cntC c' k = 0)) (k : List UInt8) : namesC kids c' k = namesC kids c k + if k ∈ kids p then 1 else 0 := by
  have hp : p ∉ c.map (·.1) := fun hm => (cntC_pos hc).1 hm h0
  have hperm : (c'.map (·.1)).Perm (p :: c.map (·.1)) := by
    refine (List.perm_ext_iff_of_nodup (up_nodup hc'.up) (List.nodup_cons.2 ⟨hp, up_nodup hc.up⟩)).2 fun x => ?_
    rw [cntC_pos hc', List.mem_cons, cntC_pos hc]
    by_cases hx : x = p
    · subst hx; simp [h1]
    · have h2 := h x hx
      constructor
      · intro e; exact .inr fun e2 => e (h2.1 e2)
      · intro e e2; exact e.elim hx fun e3 => e3 (h2.2 e2)
  unfold namesC
  rw [(hperm.filter _).length_eq]
  by_cases hk : k ∈ kids p
  · rw [List.filter_cons_of_pos (by simpa using hk), if_pos hk, List.length_cons]
  · rw [List.filter_cons_of_neg (by simpa using hk), if_neg hk]; omega
/-- Counts and what is still to come, against roots. -/
def EqQ (kids : List UInt8 → List (List UInt8)) (rs : List (List UInt8)) (s : QC) : Prop := FitCn s.2 ∧ ∀ k, cntC s.2 k + s.1.count k = rs.count k + namesC kids s.2 k
theorem plusS_eq (hkd : ∀ k, (kids k).Nodup) {rs : List (List UInt8)} {s : QC} (h : EqQ kids rs s) : EqQ kids rs (plusS kids s) := by
  obtain ⟨q, c⟩ := s
  cases q with
  | nil => exact h
  | cons p qs =>
    obtain ⟨hc, he⟩ := h
    simp only at hc he
    obtain ⟨hf, hch⟩ := chg_plus hc p
    have hnn := cntC_nonneg hc p
    refine ⟨hf, fun k => ?_⟩
    have hk := he k
    rw [List.count_cons] at hk
    show cntC (chgC c p 1) k + ((if cntC c p = 0 then qs ++ kids p else qs).count k : Nat) = rs.count k + (namesC kids (chgC c p 1) k : Nat)
    rw [hch]
    by_cases h0 : cntC c p = 0
    · rw [if_pos h0, List.count_append, (hkd p).count, namesC_more hc hf h0 (by rw [hch, if_pos rfl]; omega) (fun x hx => by rw [hch, if_neg hx]) k]
      by_cases hkp : k = p
      · subst hkp
        rw [if_pos rfl]
        simp only [beq_self_eq_true, if_true] at hk
        split <;> omega
      · rw [if_neg hkp]
        rw [if_neg (by simpa using fun e : p = k => hkp e.symm)] at hk
        split <;> omega
    · rw [if_neg h0, namesC_same hf hc (fun x => by
        rw [hch]
        by_cases hx : x = p
        · subst hx; rw [if_pos rfl]; omega
        · rw [if_neg hx]) k]
      by_cases hkp : k = p
      · subst hkp
        rw [if_pos rfl]
        simp only [beq_self_eq_true, if_true] at hk
        omega
      · rw [if_neg hkp]
        rw [if_neg (by simpa using fun e : p = k => hkp e.symm)] at hk
        omega
theorem minusS_eq (hkd : ∀ k, (kids k).Nodup) {rs : List (List UInt8)} {s : QC} (h : FitCn s.2 ∧ ∀ k, cntC s.2 k = s.1.count k + (rs.count k + namesC kids s.2 k : Nat)) : FitCn (minusS kids s).2 ∧ ∀ k, cntC (minusS kids s).2 k = (minusS kids s).1.count k + (rs.count k + namesC kids (minusS kids s).2 k : Nat) := by
  obtain ⟨q, c⟩ := s
  cases q with
  | nil => exact h
  | cons p qs =>
    obtain ⟨hc, he⟩ := h
    simp only at hc he
    have hp : cntC c p ≠ 0 := by
      have := he p
      rw [List.count_cons_self] at this
      omega
    obtain ⟨hf, hch⟩ := chg_minus hc hp
    have hnn := cntC_nonneg hc p
    show FitCn (if cntC c p = 0 then (qs, c) else (if cntC (chgC c p (-1)) p = 0 then qs ++ kids p else qs, chgC c p (-1))).2 ∧ ∀ k, cntC (if cntC c p = 0 then (qs, c) else (if cntC (chgC c p (-1)) p = 0 then qs ++ kids p else qs, chgC c p (-1))).2 k = (if cntC c p = 0 then (qs, c) else (if cntC (chgC c p (-1)) p = 0 then qs ++ kids p else qs, chgC c p (-1))).1.count k + (rs.count k + namesC kids (if cntC c p = 0 then (qs, c) else (if cntC (chgC c p (-1)) p = 0 then qs ++ kids p else qs, chgC c p (-1))).2 k : Nat)
    rw [if_neg hp]
    refine ⟨hf, fun k => ?_⟩
    simp only
    have hk := he k
    rw [List.count_cons] at hk
    have hpp : cntC (chgC c p (-1)) p = cntC c p - 1 := by rw [hch, if_pos rfl]
    by_cases h0 : cntC (chgC c p (-1)) p = 0
    · have hm := namesC_more (kids := kids) hf hc h0 hp (fun x hx => by rw [hch, if_neg hx]) k
      rw [if_pos h0, List.count_append, (hkd p).count, hch]
      rw [hm] at hk
      by_cases hkp : k = p
      · subst hkp
        rw [if_pos rfl]
        simp only [beq_self_eq_true, if_true] at hk
        split at hk <;> rename_i hh <;> simp only [hh, if_true, if_false] <;> omega
      · rw [if_neg hkp]
        rw [if_neg (by simpa using fun e : p = k => hkp e.symm)] at hk
        split at hk <;> rename_i hh <;> simp only [hh, if_true, if_false] <;> omega
    · rw [if_neg h0, namesC_same hf hc (fun x => by
        rw [hch]
        by_cases hx : x = p
        · subst hx; rw [if_pos rfl]; omega
        · rw [if_neg hx]) k, hch]
      by_cases hkp : k = p
      · subst hkp
        rw [if_pos rfl]
        simp only [beq_self_eq_true, if_true] at hk
        omega
      · rw [if_neg hkp]
        rw [if_neg (by simpa using fun e : p = k => hkp e.symm)] at hk
        omega
end
end Go.Proofs.YtaompdnnkfmjhaaGreatDoor
