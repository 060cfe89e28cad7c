/- The program's sums. Regions that draw their order: the first m operations, quiet in a class of worlds, are walked once; then those that wait for all of them. No program in sight. Regions that draw their order: a quick test that the first m operations come ahead of all others. No program in sight. The program's words of a block. -/
import Derived.Test.YtkejdbidomlonaaGreatDoorJAs11
import Derived.Test.YtkejdbidomlonaaGreatDoorJPlain
namespace Go.Proofs.YtkejdbidomlonaaGreatDoor
open Go.RowKit

set_option maxHeartbeats 2000000 in
set_option maxRecDepth 100000 in
theorem rotl_walk (x n : Nat) (w : World) (hx : x < 4294967296) (h0 : 0 < n) (hn : n < 32) :
    Calls Tryz.prog 166 #[.int .u32 x, .int .i64 (-(n : Int))] w fun e w' => e = .returned (.int .u32 (rotN n x : Nat)) ∧ w' = w := by
  have hs : bits BinOp.and IntKind.u64 (IntKind.u64.wrap (-(n : Int))) 31 = 32 - (n : Int) := by
    have e : IntKind.u64.wrap (-(n : Int)) = ((18446744073709551616 - n : Nat) : Int) := by simp only [IntKind.wrap, IntKind.bits, IntKind.signed]; simp; omega
    rw [e, show (31 : Int) = ((31 : Nat) : Int) from rfl, u64_and_nat _ _ (by omega) (by omega)]
    have := Nat.and_two_pow_sub_one_eq_mod (18446744073709551616 - n) 5
    rw [show (2 : Nat) ^ 5 - 1 = 31 from rfl] at this
    rw [this]
    omega
  go_enter Tryz.func166, Tryz.ntmps166
  go_wp2
  go_ret
  exact ⟨congrArg (fun z => Ending.returned (Value.int IntKind.u32 z)) (by rw [show 32 - (32 - n) = n by omega]; exact bits_rot' (by omega) hx), rfl⟩

set_option maxRecDepth 100000 in
theorem down_walk (x n : Nat) (w : World) (hx : x < 4294967296) (h0 : 0 < n) (hn : n < 32) :
    Calls Tryz.prog 161 #[.int .u32 x, .int .i64 n] w fun e w' => e = .returned (.int .u32 (rotN n x : Nat)) ∧ w' = w := by
  have C := rotl_walk x n w hx h0 hn
  go_enter Tryz.func161, Tryz.ntmps161
  go_wp2_with (go_at_call 166; refine (C).mono ?_; rintro e w' ⟨rfl, rfl⟩)
  go_ret
  exact ⟨rfl, rfl⟩

set_option maxHeartbeats 4000000 in
set_option maxRecDepth 100000 in
theorem const_walk (w : World) :
    Calls Tryz.prog 159 #[] w fun e w' => e = .returned (.agg (kSha.map wV).toArray) ∧ Below w.heap.size w w' := by
  go_enter Tryz.func159, Tryz.ntmps159
  go_upto_region 1 with fail
  generalize hw1 : w.alloc _ = w1
  have hz : w1.heap[w.heap.size]? = some (.cells (Array.replicate 64 (.int .u32 0)) 123 (0, 0)) := by
    rw [← hw1]
    exact heap_alloc_new _ _
  have hb : Below w.heap.size w w1 := by
    rw [← hw1]
    exact (Below.refl _ _).alloc (Nat.le_refl _) _
  clear hw1
  apply wp_region_lit
  refine wpList_build rfl 123 _ rfl (by as_aux_lemma => kernel_rfl) ?_
  refine wpList_store_row rfl 123 _ _ rfl w.heap.size (kSha.map wV).toArray rfl (by as_aux_lemma => kernel_rfl) 123 _ hz (by as_aux_lemma => kernel_rfl) rfl (by as_aux_lemma => kernel_rfl) ?_
  apply wpList_nil
  generalize hw2 : w1.setRow _ _ = w2
  have hz2 : w2.heap[w.heap.size]? = some (.cells (kSha.map wV).toArray 123 (0, 0)) := by
    rw [← hw2]
    exact setRow_heap w1 _ _ _ _ _ hz
  have hb2 : Below w.heap.size w w2 := by
    rw [← hw2]
    exact below_setRow hb (Nat.le_refl _) _
  clear hw2
  rename_i hK
  refine hK _ _ ?_
  apply wp_ret
  exact bodyPost_ret (v := .agg (kSha.map wV).toArray) (results_cell_row rfl _ _ w.heap.size 123 _ _ _ (by as_aux_lemma => kernel_rfl) hz2 Tryz.underlying123 rfl (by as_aux_lemma => kernel_rfl)) rfl ⟨rfl, hb2⟩

set_option maxHeartbeats 4000000 in
set_option maxRecDepth 100000 in
theorem first_walk (w : World) :
    Calls Tryz.prog 87 #[] w fun e w' => e = .returned (.agg (h0Sha.words.map wV).toArray) ∧ Below w.heap.size w w' := by
  go_enter Tryz.func87, Tryz.ntmps87
  go_upto_region 1 with fail
  generalize hw1 : w.alloc _ = w1
  have hz : w1.heap[w.heap.size]? = some (.cells (Array.replicate 8 (.int .u32 0)) 93 (0, 0)) := by
    rw [← hw1]
    exact heap_alloc_new _ _
  have hb : Below w.heap.size w w1 := by
    rw [← hw1]
    exact (Below.refl _ _).alloc (Nat.le_refl _) _
  clear hw1
  apply wp_region_lit
  refine wpList_build rfl 93 _ rfl (by as_aux_lemma => kernel_rfl) ?_
  refine wpList_store_row rfl 93 _ _ rfl w.heap.size (h0Sha.words.map wV).toArray rfl (by as_aux_lemma => kernel_rfl) 93 _ hz (by as_aux_lemma => kernel_rfl) rfl (by as_aux_lemma => kernel_rfl) ?_
  apply wpList_nil
  generalize hw2 : w1.setRow _ _ = w2
  have hz2 : w2.heap[w.heap.size]? = some (.cells (h0Sha.words.map wV).toArray 93 (0, 0)) := by
    rw [← hw2]
    exact setRow_heap w1 _ _ _ _ _ hz
  have hb2 : Below w.heap.size w w2 := by
    rw [← hw2]
    exact below_setRow hb (Nat.le_refl _) _
  clear hw2
  rename_i hK
  refine hK _ _ ?_
  apply wp_ret
  exact bodyPost_ret (v := .agg (h0Sha.words.map wV).toArray) (results_cell_row rfl _ _ w.heap.size 93 _ _ _ (by as_aux_lemma => kernel_rfl) hz2 Tryz.underlying93 rfl (by as_aux_lemma => kernel_rfl)) rfl ⟨rfl, hb2⟩
end Go.Proofs.YtkejdbidomlonaaGreatDoor

namespace Go.Proofs.YtkejdbidomlonaaGreatDoor
open Go Go.RowKit

section
variable {P : Program} {ops : Array Oper} {md : Region.Mode} {C : World → Prop}

/-- Whatever order is picked, the first m come ahead of all others. -/
def ahead (md : Region.Mode) (ops : Array Oper) (m : Nat) : Nat → Array Bool → Bool
  | 0, listed => (List.range m).all fun i => listed.getD i true
  | k + 1, listed => !(Region.ready md ops listed).isEmpty && (Region.ready md ops listed).all fun i => decide (i < m) && ahead md ops m k (listed.setIfInBounds i true)
def lexPre (md : Region.Mode) (ops : Array Oper) : Nat → Nat → Array Bool → Bool
  | 0, _, _ => true
  | n + 1, k, listed => (Region.ready md ops listed).contains k && Region.free md ops listed k && lexPre md ops n (k + 1) (listed.setIfInBounds k true)
def listedTo : Nat → Nat → Array Bool → Array Bool
  | 0, _, listed => listed
  | n + 1, k, listed => listedTo n (k + 1) (listed.setIfInBounds k true)

/-- Whatever order is picked of the first ones; then T. -/
def wpPre (P : Program) (md : Region.Mode) (ops : Array Oper) (C : World → Prop) (T : Array Bool → Act → Prop) : Nat → Array Bool → Act → Prop
  | 0, listed, a => T listed a
  | k + 1, listed, a => Region.ready md ops listed ≠ [] ∧ ∀ i ∈ Region.ready md ops listed, qOp P ops C i (wpPre P md ops C T k (listed.setIfInBounds i true)) a

theorem wpAny_of_pre {Q' : Exit → Act → World → Prop} {f : Nat} : ∀ (k : Nat) (listed : Array Bool) (a : Act) (w : World), C w →
    wpPre P md ops C (fun listed a => ∀ w, C w → wpAny P md ops Q' f listed a w) k listed a → wpAny P md ops Q' (k + f) listed a w
  | 0, _, _, w, hw, h => by rw [Nat.zero_add]; exact h w hw
  | k + 1, _, _, w, hw, h => by
    rw [Nat.succ_add]
    exact ⟨fun h0 => absurd h0 h.1, fun i hi => wpOp_of_qOp hw (fun a' w' hw' => wpAny_of_pre k _ a' w' hw') (h.2 i hi)⟩

theorem ahead_at {m k : Nat} {listed : Array Bool} (h : ahead md ops m (k + 1) listed = true) {i : Nat} (hi : i ∈ Region.ready md ops listed) : i < m ∧ ahead md ops m k (listed.setIfInBounds i true) = true := by
  simp only [ahead, Bool.and_eq_true, List.all_eq_true, decide_eq_true_eq] at h
  exact h.2 i hi

theorem wpPre_first {T : Array Bool → Act → Prop} {m i : Nat} {oi : Oper} {v : Value} (hi : ops[i]? = some oi) (hsel : ∀ (j : Nat) (o : Oper) cs b, ops[j]? = some o → o.op ≠ .select cs b) :
    ∀ (k : Nat) (listed : Array Bool) (a : Act), ahead md ops m (k + 1) listed = true →
      (∀ j oj, ops[j]? = some oj → j ≠ i → listed.getD j true = false → (∀ e ∈ oj.after, Region.binds md e = true → e.on ≠ i) → oi.apart ops oj = true) →
      i ∈ Region.ready md ops listed → YieldsIn P ops C oi v a →
      wpPre P md ops C T k (listed.setIfInBounds i true) (a.put oi.dst v) → wpPre P md ops C T (k + 1) listed a := by
  intro k
  induction k with
  | zero =>
    intro listed a hA _ hr hy H
    refine ⟨List.ne_nil_of_mem hr, fun j hj => ?_⟩
    by_cases hji : j = i
    · subst hji; exact hy.qOp hi H
    · exfalso
      have h1 := (ahead_at hA hr).2
      have h2 := (ahead_at hA hj).1
      simp only [ahead, List.all_eq_true, List.mem_range] at h1
      have h3 := h1 j h2
      rw [getD_set_ne true (Ne.symm hji), (mem_ready.1 hj).1] at h3
      cases h3
  | succ k ih =>
    intro listed a hA hfree hr hy H
    refine ⟨List.ne_nil_of_mem hr, fun j hj => ?_⟩
    by_cases hji : j = i
    · subst hji; exact hy.qOp hi H
    · have h1 := H.2 j (ready_mono hj hji)
      obtain ⟨hjun, oj, hoj, hall⟩ := mem_ready.1 hj
      have hnot : ∀ e ∈ oj.after, Region.binds md e = true → e.on ≠ i := fun e he hb heq => by
        have h1 := hall e he hb
        have h0 := (mem_ready.1 hr).1
        rw [heq] at h1
        rcases Nat.lt_or_ge i listed.size with h' | h'
        · simp [h'] at h0 h1; rw [h0] at h1; cases h1
        · simp [Array.getElem?_eq_none h'] at h1
      have h2 := qOp_put hoj (hfree j oj hoj hji hjun hnot) (fun cs b => hsel i oi cs b hi) (fun cs b => hsel j oj cs b hoj) hy h1
      have hfree' : ∀ k ok, ops[k]? = some ok → k ≠ i → (listed.setIfInBounds j true).getD k true = false →
          (∀ e ∈ ok.after, Region.binds md e = true → e.on ≠ i) → oi.apart ops ok = true := fun k ok hk hki hun hno => by
        refine hfree k ok hk hki ?_ hno
        by_cases hjk : j = k
        · subst hjk; exact hjun
        · rw [getD_set_ne true hjk] at hun; exact hun
      refine qOp_mono (fun a' h3 => ih (listed.setIfInBounds j true) a' (ahead_at hA hj).2 hfree' (ready_mono hr (Ne.symm hji)) h3.1 ?_) h2
      rw [Array.setIfInBounds_comm _ _ hji]
      exact h3.2

theorem wpPre_lex {Q : Act → Prop} {m : Nat} {L : Array Bool} (hs : Region.noSelect ops = true) : ∀ (l : List Oper) (k : Nat) (listed : Array Bool) (a : Act), (∀ j, j < l.length → l[j]? = ops[k + j]?) →
    lexPre md ops l.length k listed = true → ahead md ops m l.length listed = true → listedTo l.length k listed = L → wpQuiet P ops C Q l a → wpPre P md ops C (fun listed a => listed = L ∧ Q a) l.length listed a
  | [], _, _, _, _, _, _, hL, h => ⟨hL, h⟩
  | o :: l, k, listed, a, hl, hB, hA, hL, h => by
    have h0 : ops[k]? = some o := by simpa using (hl 0 (by simp)).symm
    simp only [List.length_cons, lexPre, Bool.and_eq_true] at hB
    obtain ⟨⟨hr, hf⟩, hB'⟩ := hB
    have hst : qOp P ops C k (wpQuiet P ops C Q l) a := by unfold qOp; simp only [h0]; exact h
    obtain ⟨v, hy, hK⟩ := yieldsIn_of_qOp h0 hst
    have hr' : k ∈ Region.ready md ops listed := by simpa using hr
    exact wpPre_first h0 (Region.noSelect_spec hs) l.length listed a hA (Region.free_spec h0 hf) hr' hy
      (wpPre_lex hs l (k + 1) _ _ (fun j hj => by have := hl (j + 1) (by simpa using hj); simpa [Nat.add_assoc, Nat.add_comm 1 j] using this) hB' (ahead_at hA hr').2 hL hK)

theorem wpPre_mono {T T' : Array Bool → Act → Prop} (h : ∀ l a, T l a → T' l a) : ∀ (k : Nat) (listed : Array Bool) (a : Act), wpPre P md ops C T k listed a → wpPre P md ops C T' k listed a
  | 0, _, _, hh => h _ _ hh
  | k + 1, _, _, hh => ⟨hh.1, fun i hi => qOp_mono (fun a' => wpPre_mono h k _ a') (hh.2 i hi)⟩

/-- The first m operations, walked once in a class of worlds; then the others, that wait for them. -/
theorem wp_region_tail {id : Nat} {Q : Exit → Act → World → Prop} {a : Act} {w : World} {l : List Oper} (m f : Nat) (hl : l.length = m + f) (hm : P.follows .mixedOrders = true) (hs : Region.noSelect l.toArray = true)
    (hB : lexPre .any l.toArray m 0 (Array.replicate (m + f) false) = true) (hA : ahead .any l.toArray m m (Array.replicate (m + f) false) = true) (hC : C { w with drawn := w.drawn + 1 })
    (h : wpQuiet P l.toArray C (fun a' => ∀ w', C w' → wpAny P .any l.toArray Q f (listedTo m 0 (Array.replicate (m + f) false)) a' w') (l.take m) a) : (Code.region id l.toArray true).wp P Q a w := by
  refine wp_region_any hm ?_
  rw [List.size_toArray, hl]
  have hlt : (l.take m).length = m := by rw [List.length_take]; omega
  refine wpAny_of_pre m _ a _ hC ?_
  have := wpPre_lex (C := C) (md := .any) (m := m) (L := listedTo m 0 (Array.replicate (m + f) false)) hs (l.take m) 0 (Array.replicate (m + f) false) a (fun j hj => by
    rw [hlt] at hj
    rw [List.getElem?_take, if_pos hj]; simp) (by rw [hlt]; exact hB) (by rw [hlt]; exact hA) (by rw [hlt]) h
  rw [hlt] at this
  exact wpPre_mono (fun l a ⟨h1, h2⟩ => by subst h1; exact h2) _ _ _ this
theorem wp_tail_later {id : Nat} {Q : Exit → Act → World → Prop} {a : Act} {w : World} {l : List Oper} (m f : Nat) (hl : l.length = m + f) (hm : P.follows .mixedOrders = true) (hs : Region.noSelect l.toArray = true)
    (hB : lexPre .any l.toArray m 0 (Array.replicate (m + f) false) = true) (hA : ahead .any l.toArray m m (Array.replicate (m + f) false) = true)
    (h : wpQuiet P l.toArray (fun w' => ∃ p : LaterOf w, w' = p.world) (fun a' => ∀ w', (∃ p : LaterOf w, w' = p.world) → wpAny P .any l.toArray Q f (listedTo m 0 (Array.replicate (m + f) false)) a' w') (l.take m) a) : (Code.region id l.toArray true).wp P Q a w :=
  wp_region_tail (C := fun w' => ∃ p : LaterOf w, w' = p.world) m f hl hm hs hB hA ⟨⟨{ w with drawn := w.drawn + 1 }, ⟨rfl, rfl, rfl, Nat.le_refl _, fun _ _ => rfl⟩⟩, rfl⟩ h
end
end Go.Proofs.YtkejdbidomlonaaGreatDoor

namespace Go.Proofs.YtkejdbidomlonaaGreatDoor
open Go Go.RowKit

def edgeOn (md : Region.Mode) (o : Oper) (i : Nat) : Bool := o.after.toList.any (fun e => Region.binds md e && (e.on == i))
def nxtOf (md : Region.Mode) (ops : Array Oper) (i : Nat) : Nat :=
  ((List.range ops.size).find? (fun j => decide (i < j) && (match ops[j]? with | some o => edgeOn md o i | none => false))).getD 0
/-- Each of the first m refers only to earlier ones, and leads on to number m; all behind m wait for m. -/
def aheadOk (md : Region.Mode) (ops : Array Oper) (m : Nat) : Bool :=
  decide (m < ops.size) &&
  ((List.range m).all (fun i => match ops[i]? with
    | some o => o.after.toList.all (fun e => !Region.binds md e || decide (e.on < i)) && (decide (i < nxtOf md ops i) && (decide (nxtOf md ops i ≤ m) &&
        (match ops[nxtOf md ops i]? with | some o' => edgeOn md o' i | none => false)))
    | none => false) &&
  (List.range ops.size).all (fun j => decide (j ≤ m) || (match ops[j]? with | some o => edgeOn md o m | none => true)))

theorem count_flip {p q : Nat → Bool} {i : Nat} (hp : p i = true) (hq : q i = false) (h : ∀ j, j ≠ i → p j = q j) : ∀ m, (List.range m).countP p = (List.range m).countP q + (if i < m then 1 else 0)
  | 0 => by simp
  | m + 1 => by
    rw [List.range_succ, List.countP_append, List.countP_append, count_flip hp hq h m]
    by_cases e : m = i
    · subst e
      simp [hp, hq]
    · have h1 := h m e
      simp only [List.countP_singleton, h1]
      by_cases h2 : i < m
      · rw [if_pos h2, if_pos (show i < m + 1 by omega)]; omega
      · rw [if_neg h2, if_neg (show ¬ i < m + 1 by omega), Nat.add_zero, Nat.add_zero]

section
variable {md : Region.Mode} {ops : Array Oper} {m : Nat}

structure AheadI (md : Region.Mode) (ops : Array Oper) (m k : Nat) (listed : Array Bool) : Prop where
  size : listed.size = ops.size
  hi : ∀ j, m ≤ j → j < ops.size → listed.getD j true = false
  dc : ∀ i, i < m → listed.getD i true = true → ∀ o, ops[i]? = some o → ∀ e ∈ o.after, Region.binds md e = true → listed.getD e.on true = true
  cnt : (List.range m).countP (fun i => !listed.getD i true) = k

theorem edgeOn_iff {o : Oper} {i : Nat} (h : edgeOn md o i = true) : ∃ e ∈ o.after, Region.binds md e = true ∧ e.on = i := by
  unfold edgeOn at h
  obtain ⟨e, he, h2⟩ := List.any_eq_true.1 h
  simp only [Bool.and_eq_true, beq_iff_eq] at h2
  exact ⟨e, by simpa using he, h2.1, h2.2⟩
theorem getD_in {a : Array Bool} {i : Nat} (h : i < a.size) (x y : Bool) : a.getD i x = a.getD i y := by simp [Array.getD, h]
theorem getD_out {a : Array Bool} {i : Nat} (h : ¬ i < a.size) (x : Bool) : a.getD i x = x := by simp [Array.getD, h]

theorem ahead_of_ok (hok : aheadOk md ops m = true) : ∀ (k : Nat) (listed : Array Bool), AheadI md ops m k listed → ahead md ops m k listed = true := by
  unfold aheadOk at hok
  simp only [Bool.and_eq_true, decide_eq_true_eq, List.all_eq_true, List.mem_range, Bool.or_eq_true] at hok
  obtain ⟨hm, h1, h2⟩ := hok
  have hget : ∀ i, i < m → ∃ o, ops[i]? = some o ∧ (∀ e ∈ o.after, Region.binds md e = true → e.on < i) ∧ i < nxtOf md ops i ∧ nxtOf md ops i ≤ m ∧ ∃ o', ops[nxtOf md ops i]? = some o' ∧ edgeOn md o' i = true := by
    intro i hi
    have h3 := h1 i hi
    cases ho : ops[i]? with
    | none => rw [ho] at h3; cases h3
    | some o =>
      rw [ho] at h3
      simp only [Bool.and_eq_true, decide_eq_true_eq, List.all_eq_true, Bool.or_eq_true, Bool.not_eq_true'] at h3
      obtain ⟨h4, h5, h6, h7⟩ := h3
      refine ⟨o, rfl, fun e he hb => ?_, h5, h6, ?_⟩
      · rcases h4 e (by simpa using he) with h | h
        · rw [hb] at h; cases h
        · exact h
      · cases ho' : ops[nxtOf md ops i]? with
        | none => rw [ho'] at h7; cases h7
        | some o' => rw [ho'] at h7; exact ⟨o', rfl, h7⟩
  intro k
  induction k with
  | zero =>
    intro listed hI
    simp only [ahead, List.all_eq_true, List.mem_range]
    intro i hi
    have h3 := hI.cnt
    rw [List.countP_eq_zero] at h3
    have h4 := h3 i (List.mem_range.2 hi)
    simpa using h4
  | succ k ih =>
    intro listed hI
    -- some of the first m is not listed
    have hex : ∃ p, p < m ∧ listed.getD p true = false := by
      have h3 : 0 < (List.range m).countP (fun i => !listed.getD i true) := by rw [hI.cnt]; omega
      obtain ⟨p, hp, h4⟩ := List.countP_pos_iff.1 h3
      exact ⟨p, List.mem_range.1 hp, by simpa using h4⟩
    -- whoever is ready is one of the first m
    have hlow : ∀ i ∈ Region.ready md ops listed, i < m := by
      intro j hj
      obtain ⟨hju, o, hoj, hall⟩ := mem_ready.1 hj
      rcases Nat.lt_or_ge j m with h | hge
      · exact h
      exfalso
      have hjs : j < ops.size := (Array.getElem?_eq_some_iff.1 hoj).1
      rcases Nat.lt_or_ge m j with hgt | hle
      · have h3 := h2 j hjs
        rcases h3 with h3 | h3
        · omega
        · rw [hoj] at h3
          obtain ⟨e, he, hb, hon⟩ := edgeOn_iff h3
          have h4 := hall e he hb
          rw [hon, getD_in (by rw [hI.size]; exact hm) false true, hI.hi m (Nat.le_refl _) hm] at h4
          cases h4
      · obtain rfl : j = m := by omega
        -- the largest that is not listed
        have hdown : ∀ d, ∀ p, j - p ≤ d → p < j → listed.getD p true = true := by
          intro d
          induction d with
          | zero => intro p h3 h4; omega
          | succ d ihd =>
            intro p _ h4
            obtain ⟨o1, ho1, _, hn1, hn2, o2, ho2, hed⟩ := hget p h4
            obtain ⟨e, he, hb, hon⟩ := edgeOn_iff hed
            rcases Nat.lt_or_ge (nxtOf md ops p) j with h5 | h5
            · have h6 := ihd (nxtOf md ops p) (by omega) h5
              have h7 := hI.dc _ h5 h6 o2 ho2 e he hb
              rwa [hon] at h7
            · have h6 : nxtOf md ops p = j := by omega
              rw [h6, hoj] at ho2
              cases ho2
              have h7 := hall e he hb
              rw [hon] at h7
              rwa [getD_in (by rw [hI.size]; omega) true false]
        obtain ⟨p, hp, hpu⟩ := hex
        rw [hdown j p (by omega) hp] at hpu
        cases hpu
    -- the least that is not listed is ready
    have hne : Region.ready md ops listed ≠ [] := by
      obtain ⟨p, hp, hpu⟩ := hex
      have hmin : ∃ p, p < m ∧ listed.getD p true = false ∧ ∀ q, q < p → listed.getD q true = true := by
        clear hlow
        induction p using Nat.strongRecOn with
        | _ p ihp =>
          by_cases h3 : ∀ q, q < p → listed.getD q true = true
          · exact ⟨p, hp, hpu, h3⟩
          · obtain ⟨q, h4⟩ := Classical.not_forall.1 h3
            obtain ⟨h5, h6⟩ := Classical.not_imp.1 h4
            exact ihp q h5 (by omega) (by simpa using h6)
      obtain ⟨p, hp, hpu, hq⟩ := hmin
      obtain ⟨o, ho, hb, _⟩ := hget p hp
      refine List.ne_nil_of_mem (a := p) (mem_ready.2 ⟨hpu, o, ho, fun e he hbe => ?_⟩)
      have h3 := hb e he hbe
      rw [getD_in (by rw [hI.size]; omega) false true]
      exact hq _ h3
    simp only [ahead, Bool.and_eq_true, List.all_eq_true, decide_eq_true_eq]
    refine ⟨by cases hr : Region.ready md ops listed with | nil => exact absurd hr hne | cons a t => rfl, fun i hi => ⟨hlow i hi, ih _ ?_⟩⟩
    have him := hlow i hi
    obtain ⟨hiu, o, hoi, hall⟩ := mem_ready.1 hi
    have his : i < listed.size := by rw [hI.size]; omega
    have hself : ∀ x, (listed.setIfInBounds i true).getD i x = true := fun x => by simp [Array.getD, his]
    refine ⟨by simp [hI.size], fun j hj hjs => by rw [getD_set_ne true (by omega)]; exact hI.hi j hj hjs, ?_, ?_⟩
    · intro j hj hjl o2 ho2 e he hb
      by_cases hji : j = i
      · subst hji
        rw [hoi] at ho2
        cases ho2
        by_cases h3 : e.on = j
        · rw [h3]; exact hself true
        · have h4 := hall e he hb
          rw [getD_set_ne true (Ne.symm h3)]
          by_cases h5 : e.on < listed.size
          · rwa [getD_in h5 true false]
          · rw [getD_out h5]
      · rw [getD_set_ne true (Ne.symm hji)] at hjl
        have h4 := hI.dc j hj hjl o2 ho2 e he hb
        by_cases h3 : e.on = i
        · rw [h3]; exact hself true
        · rw [getD_set_ne true (Ne.symm h3)]; exact h4
    · have h3 := count_flip (p := fun j => !listed.getD j true) (q := fun j => !(listed.setIfInBounds i true).getD j true) (i := i) (by rw [hiu]; rfl) (by rw [hself]; rfl) (fun j hj => by rw [getD_set_ne true (Ne.symm hj)]) m
      rw [hI.cnt, if_pos him] at h3
      omega

theorem ahead_start (hok : aheadOk md ops m = true) {n : Nat} (hn : n = ops.size) : ahead md ops m m (Array.replicate n false) = true := by
  subst hn
  refine ahead_of_ok hok m _ ⟨by simp, fun j _ hj => by simp [Array.getD, hj], fun i hi h => ?_, ?_⟩
  · have hm : m < ops.size := by
      unfold aheadOk at hok
      simp only [Bool.and_eq_true, decide_eq_true_eq] at hok
      exact hok.1
    rw [show (Array.replicate ops.size false).getD i true = false by simp [Array.getD]; omega] at h
    cases h
  · have hm : m < ops.size := by
      unfold aheadOk at hok
      simp only [Bool.and_eq_true, decide_eq_true_eq] at hok
      exact hok.1
    have : (List.range m).countP (fun i => !(Array.replicate ops.size false).getD i true) = (List.range m).length := by
      rw [List.countP_eq_length]
      intro i hi
      have := List.mem_range.1 hi
      rw [show (Array.replicate ops.size false).getD i true = false by simp [Array.getD]; omega]; rfl
    rw [this, List.length_range]
end
section
variable {P : Program}
theorem wp_tail_quick {id : Nat} {Q : Exit → Act → World → Prop} {a : Act} {w : World} {l : List Oper} (m f : Nat) (hl : l.length = m + f) (hm : P.follows .mixedOrders = true) (hs : Region.noSelect l.toArray = true)
    (hB : lexPre .any l.toArray m 0 (Array.replicate (m + f) false) = true) (hA : aheadOk .any l.toArray m = true)
    (h : wpQuiet P l.toArray (fun w' => ∃ p : LaterOf w, w' = p.world) (fun a' => ∀ w', (∃ p : LaterOf w, w' = p.world) → wpAny P .any l.toArray Q f (listedTo m 0 (Array.replicate (m + f) false)) a' w') (l.take m) a) : (Code.region id l.toArray true).wp P Q a w :=
  wp_tail_later m f hl hm hs hB (ahead_start hA (by rw [List.size_toArray, hl])) h
end
end Go.Proofs.YtkejdbidomlonaaGreatDoor

namespace Go.Proofs.YtkejdbidomlonaaGreatDoor
open Go.RowKit

set_option maxHeartbeats 4000000 in
set_option maxRecDepth 100000 in
theorem schedule_walk (b : List UInt8) (hl : b.length = 64) (w : World) :
    Calls Tryz.prog 160 #[.agg (b.map bV).toArray] w fun e w' => e = .returned (.agg ((schedW b).map wV).toArray) ∧ Below w.heap.size w w' := by
  go_enter Tryz.func160, Tryz.ntmps160
  go_upto_region 1 with fail
  generalize hw1 : (w.alloc _).alloc _ = w1
  have hz0 : w1.heap[w.heap.size]? = some (.cells (b.map bV).toArray 95 (0, 0)) := by
    rw [← hw1]
    exact heap_alloc2_old _ _ _
  have hz1 : w1.heap[w.heap.size + 1]? = some (.cells ((begW b 0).map wV).toArray 123 (0, 0)) := by
    rw [← hw1, begW_zero]
    exact heap_alloc2_new _ _ _
  have hb : Below w.heap.size w w1 := by
    rw [← hw1]
    exact ((Below.refl _ _).alloc (Nat.le_refl _) _).alloc (by simp) _
  clear hw1
  have hsz : (Tryz.prog.info? 95).map (·.size) = some (b.map bV).toArray.size := by
    simp only [List.size_toArray, List.length_map, hl]
    kernel_rfl
  go_wp2_with (refine wpList_load_row rfl 95 _ rfl w.heap.size rfl 95 _ _ _ hz0 Tryz.underlying95 rfl hsz ?_)
  go_loopw [9, 3, 4] (fun i _ _ wr => ∃ k : Nat, k ≤ 64 ∧ i = .int .i64 k ∧ wr.heap[w.heap.size + 1]? = some (.cells ((begW b k).map wV).toArray 123 (0, 0)) ∧ Below w.heap.size w wr) (fun i _ _ _ => 64 - (intOf i).toNat)
  case atStart => exact ⟨0, Nat.zero_le _, rfl, hz1, hb⟩
  case round =>
    obtain ⟨k, hk, rfl, hzr, hB⟩ := hrel
    by_cases h1 : k < 64
    · have h1' : (k : Int) < 64 := by omega
      have hix : ∀ W : World, (Instr.index 95 (.agg (b.map bV).toArray) (.int .i64 k)).run Tryz.prog W = .ok (.int .u8 ((b[k]'(by omega)).toNat : Nat)) W :=
        run_index_agg 95 5 64 k _ _ _ Tryz.underlying95 Tryz.underlying5 rfl (by kernel_rfl) h1 (map_at (by omega))
      have hq : k / 4 < 64 := by omega
      have hc0 := arr_cell hzr (map_at (f := wV) (i := k / 4) (by rw [begW_len]; exact hq))
      clear hz0 hz1 hb hsz
      have hd1 : 0 ≤ (k : Int) / 4 := by omega
      have hd2 : (k : Int) / 4 < 64 := by omega
      have hd3 : ((k : Int) / 4).toNat = k / 4 := by omega
      have hd4 : 0 ≤ 24 - 8 * ((k : Int) % 4) := by omega
      have hd5 : 24 - 8 * ((k : Int) % 4) ≤ 32 := by omega
      rw [begW_at] at hc0
      unfold wV at hc0
      have HSET := Lib.hid (begW_set (b := b) (i := k) (by omega) hl)
      have hwl := wordB_lt (b.take k) (k / 4)
      generalize wordB (b.take k) (k / 4) = wd at *
      have q0 := LaterOf.cell hc0
      have HZR := Lib.hid hzr
      have HB := Lib.hid hB
      generalize b[k] = c at *
      clear hzr hB
      go_upto_region 4 with fail
      (refine wp_tail_quick 13 1 rfl (by kernel_rfl) (by kernel_rfl) (by kernel_rfl) (by kernel_rfl) ?_; simp only [List.take_succ_cons, List.take_zero]; (repeat (go_big_quiet_step (fail))); refine wpQuiet_nil ?_; intro _ hw1; obtain ⟨lw, hw2⟩ := hw1; subst hw2)
      have HB2 := Lib.hid (below_chain HB.out lw.below HB.out.size)
      have HZ2 := Lib.hid ((lw.below.block _ (heap_lt HZR.out)).trans HZR.out)
      have f1 := arr_frozen (i := k / 4) HZ2.out
      have c1 := q0 lw
      have s1 := is_some c1
      have HOV := Lib.hid (or_val (k := k) hwl (UInt8.toNat_lt c))
      clear q0 HB hc0
      (refine wpAny_ready (rs := [13]) (by kernel_rfl) (by simp) ?_; refine AllReady.cons rfl (fun K hK => ?_) AllReady.nil; go_simp; refine hK _ _ ?_; clear hK K)
      refine wpAny_done (by kernel_rfl) ?_ _
      rw [HOV.out]
      have HA := Lib.hid (arr_set (i := k / 4) (x := wd ||| c.toNat * 2 ^ (24 - 8 * (k % 4))) HZ2.out HB2.out (by omega))
      rw [HSET.out] at HA
      clear HZ2 HB2 f1 c1 s1
      obtain ⟨w3, hw3⟩ : ∃ w3, w3 = lw.world.setCell ⟨w.heap.size + 1, k / 4, none⟩ (.int .u32 ((wd ||| c.toNat * 2 ^ (24 - 8 * (k % 4)) : Nat) : Int)) := ⟨_, rfl⟩
      rw [← hw3]
      have HA2 : Hid (w3.heap[w.heap.size + 1]? = some (.cells ((begW b (k + 1)).map wV).toArray 123 (0, 0)) ∧ Below w.heap.size w w3) := by rw [hw3]; exact HA
      clear hw3 HA
      go_wp2
      go_roundw
      case rel => exact ⟨k + 1, by omega, by go_num, HA2.out.1, HA2.out.2⟩
      case measure => simp [intOf]; omega
    · obtain rfl : k = 64 := by omega
      rw [show ((64 : Nat) : Int) = 64 from rfl]
      go_wp2
      have hz2 : wr.heap[w.heap.size + 1]? = some (.cells (cellsW 64 (firstW b)) 123 (0, 0)) := by
        rw [hzr, begW_end hl]
        simp only [cellsW, List.map_append, List.map_replicate, firstW, List.length_map, List.length_range]
        rfl
      have hfl : (firstW b).length = 16 := by simp [firstW]
      obtain ⟨w2, rfl⟩ : ∃ w2 : World, w2 = wr := ⟨_, rfl⟩
      clear hzr hz0 hz1 hb hsz hk h1
      go_loopw [5] (fun i wr => ∃ (ws : List Nat) (m : Nat), ws.length = m + 16 ∧ m ≤ 48 ∧ i = .int .i64 ((m : Int) + 16) ∧ W32 ws ∧ extW (48 - m) ws = schedW b ∧ wr.heap[w.heap.size + 1]? = some (.cells (cellsW 64 ws) 123 (0, 0)) ∧ Below w.heap.size w wr) (fun i _ => 64 - (intOf i).toNat)
      case atStart => exact ⟨firstW b, 0, hfl, by omega, rfl, firstW_32 b, rfl, hz2, hB⟩
      case round =>
        obtain ⟨ws, m, hwl, hm, rfl, h32, hext, hzr, hB⟩ := hrel
        by_cases h1 : m < 48
        · have h1' : (m : Int) + 16 < 64 := by omega
          have c0 := arr_cell hzr (cellsW_at (i := m) (by omega))
          have c1 := arr_cell hzr (cellsW_at (i := m + 1) (by omega))
          have c9 := arr_cell hzr (cellsW_at (i := m + 9) (by omega))
          have c14 := arr_cell hzr (cellsW_at (i := m + 14) (by omega))
          have cz := arr_cell hzr (cellsW_zero (n := 64) (ws := ws) (i := m + 16) (by omega) (by omega))
          have HN := Lib.hid (nextW_at hwl)
          have HE := Lib.hid ((extW_one (n := 48 - m) (ws := ws) (by omega)).symm.trans hext)
          have hx1 := h32.at (i := m + 1) (by omega)
          have hx0 := h32.at (i := m) (by omega)
          have hx9 := h32.at (i := m + 9) (by omega)
          have hx14 := h32.at (i := m + 14) (by omega)
          generalize ws[m + 1] = x1 at *
          generalize ws[m] = x0 at *
          generalize ws[m + 9] = x9 at *
          generalize ws[m + 14] = x14 at *
          unfold wV at c0 c1 c9 c14
          have q0 := LaterOf.cell c0
          have q1 := LaterOf.cell c1
          have q9 := LaterOf.cell c9
          have q14 := LaterOf.cell c14
          have HZR := Lib.hid hzr
          have HB := Lib.hid hB
          have H32 := Lib.hid h32
          have HWL := Lib.hid hwl
          clear hzr hB h32 hext hwl
          go_upto_region 9 with fail
          (refine wp_region_later (by kernel_rfl) (by kernel_rfl) ?_; (repeat (go_big_quiet_step (fail))); refine wpQuiet_nil ?_; intro _ hw1; obtain ⟨lw, hw2⟩ := hw1; subst hw2)
          obtain ⟨lw0, hlw0⟩ : ∃ lw0, lw0 = lw := ⟨_, rfl⟩
          rw [← hlw0]
          clear hlw0 lw
          have r0 := LaterOf.cell (q0 lw0)
          have r9 := LaterOf.cell (q9 lw0)
          clear q0 q1 q9 q14 c0 c1 c9 c14 cz
          have D1 : ∀ W : World, Calls Tryz.prog 161 #[.int .u32 x1, .int .i64 7] W fun e w' => e = .returned (.int .u32 (rotN 7 x1 : Nat)) ∧ w' = W := fun W => down_walk x1 7 W hx1 (by decide) (by decide)
          have D2 : ∀ W : World, Calls Tryz.prog 161 #[.int .u32 x1, .int .i64 18] W fun e w' => e = .returned (.int .u32 (rotN 18 x1 : Nat)) ∧ w' = W := fun W => down_walk x1 18 W hx1 (by decide) (by decide)
          have D3 : ∀ W : World, Calls Tryz.prog 161 #[.int .u32 x14, .int .i64 17] W fun e w' => e = .returned (.int .u32 (rotN 17 x14 : Nat)) ∧ w' = W := fun W => down_walk x14 17 W hx14 (by decide) (by decide)
          have D4 : ∀ W : World, Calls Tryz.prog 161 #[.int .u32 x14, .int .i64 19] W fun e w' => e = .returned (.int .u32 (rotN 19 x14 : Nat)) ∧ w' = W := fun W => down_walk x14 19 W hx14 (by decide) (by decide)
          go_upto_region 10 with fail
          (refine wp_tail_quick 29 1 rfl (by kernel_rfl) (by kernel_rfl) (by kernel_rfl) (by kernel_rfl) ?_; simp only [List.take_succ_cons, List.take_zero]; (repeat (go_big_quiet_step (first | (go_at_call 161; with_reducible exact LaterOf.still _ (D1 _)) | (go_at_call 161; with_reducible exact LaterOf.still _ (D2 _)) | (go_at_call 161; with_reducible exact LaterOf.still _ (D3 _)) | (go_at_call 161; with_reducible exact LaterOf.still _ (D4 _))))); refine wpQuiet_nil ?_; intro _ hw1; obtain ⟨lw, hw2⟩ := hw1; subst hw2)
          have HB2 := Lib.hid (below_chain (below_chain HB.out lw0.below HB.out.size) lw.below (below_chain HB.out lw0.below HB.out.size).size)
          have HZ2 := Lib.hid ((lw.below.block _ (heap_lt ((lw0.below.block _ (heap_lt HZR.out)).trans HZR.out))).trans ((lw0.below.block _ (heap_lt HZR.out)).trans HZR.out))
          have f1 := arr_frozen (i := m + 16) HZ2.out
          have c1 := arr_cell HZ2.out (cellsW_zero (n := 64) (ws := ws) (i := m + 16) (by have := HWL.out; omega) (by omega))
          have s1 := is_some c1
          have HOV : Hid (((x0 : Int) + x9 + bits BinOp.xor IntKind.u32 (bits BinOp.xor IntKind.u32 ((rotN 7 x1 : Nat) : Int) ((rotN 18 x1 : Nat) : Int)) ((x1 : Int) / 8) + bits BinOp.xor IntKind.u32 (bits BinOp.xor IntKind.u32 ((rotN 17 x14 : Nat) : Int) ((rotN 19 x14 : Nat) : Int)) ((x14 : Int) / 1024)) % 4294967296 = ((nextW ws : Nat) : Int)) := Lib.hid (by
            rw [ssA_val hx1, ssB_val hx14, HN.out]
            omega)
          clear r0 r9 D1 D2 D3 D4
          (refine wpAny_ready (rs := [29]) (by kernel_rfl) (by simp) ?_; refine AllReady.cons rfl (fun K hK => ?_) AllReady.nil; go_simp; refine hK _ _ ?_; clear hK K)
          refine wpAny_done (by kernel_rfl) ?_ _
          rw [HOV.out]
          have HA := Lib.hid (arr_push (x := nextW ws) HZ2.out (by have := HWL.out; omega) HB2.out (by omega))
          rw [HWL.out] at HA
          obtain ⟨w3, hw3⟩ : ∃ w3, w3 = lw.world.setCell ⟨w.heap.size + 1, m + 16, none⟩ (.int .u32 ((nextW ws : Nat) : Int)) := ⟨_, rfl⟩
          rw [← hw3]
          have HA2 : Hid (w3.heap[w.heap.size + 1]? = some (.cells (cellsW 64 (ws ++ [nextW ws])) 123 (0, 0)) ∧ Below w.heap.size w w3) := by rw [hw3]; exact HA
          clear hw3 HA HZ2 HB2 f1 c1 s1
          go_wp2
          go_roundw
          case rel => exact ⟨ws ++ [nextW ws], m + 1, by rw [List.length_append, HWL.out]; rfl, by omega, by go_num, H32.out.snoc (nextW_lt _), by rw [← HE.out, show 48 - (m + 1) = 48 - m - 1 by omega], HA2.out.1, HA2.out.2⟩
          case measure => simp [intOf]; omega
        · obtain rfl : m = 48 := by omega
          have hws : ws = schedW b := hext
          rw [cellsW_all (by omega), hws] at hzr
          have hsz : (Tryz.prog.info? 123).map (·.size) = some (((schedW b).map wV).toArray).size := by
            simp only [List.size_toArray, List.length_map, schedW_len]
            kernel_rfl
          have HB := Lib.hid hB
          have hone := one_map (f := wV) (fun _ => rfl) (schedW b)
          clear hext h32 hws hwl hz2 hB
          go_upto_region 11 with fail
          apply wp_region_lit
          refine wpList_load_row rfl 123 _ rfl (w.heap.size + 1) rfl 123 _ _ _ hzr Tryz.underlying123 rfl hsz ?_
          refine wpList_store_row rfl 123 _ _ rfl (w.heap.size + 1) ((schedW b).map wV).toArray rfl (by as_aux_lemma => kernel_rfl) 123 _ hzr hsz rfl hone ?_
          apply wpList_nil
          generalize hw2 : wr.setRow _ _ = w3
          have hz3 : w3.heap[w.heap.size + 1]? = some (.cells ((schedW b).map wV).toArray 123 (0, 0)) := by
            rw [← hw2]
            exact setRow_heap wr _ _ _ _ _ hzr
          have hb3 : Below w.heap.size w w3 := by
            rw [← hw2]
            exact below_setRow HB.out (by omega) _
          clear hw2
          rename_i hK
          refine hK _ _ ?_
          apply wp_ret
          exact bodyPost_ret (v := .agg ((schedW b).map wV).toArray) (results_cell_row rfl _ _ (w.heap.size + 1) 123 _ _ _ (by as_aux_lemma => kernel_rfl) hz3 Tryz.underlying123 rfl hsz) rfl ⟨rfl, hb3⟩
end Go.Proofs.YtkejdbidomlonaaGreatDoor
