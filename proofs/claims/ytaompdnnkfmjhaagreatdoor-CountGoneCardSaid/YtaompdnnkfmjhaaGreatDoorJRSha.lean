/- The reference's sums. Regions that draw their order: a quick test that the first m operations come ahead of all others. No program in sight. The reference's words of a block. -/
import Derived.Test.YtaompdnnkfmjhaaGreatDoorJNodesW
import Derived.Test.YtaompdnnkfmjhaaGreatDoorJReachQ
import Derived.Test.YtaompdnnkfmjhaaGreatDoorJCList
namespace Go.Proofs.YtaompdnnkfmjhaaGreatDoor
open Go.RowKit

set_option maxHeartbeats 2000000 in
set_option maxRecDepth 100000 in
theorem rot_walk (x n : Nat) (w : World) (hx : x < 4294967296) (h0 : 0 < n) (hn : n < 32) :
    Calls Tryz.prog 155 #[.int .u32 x, .int .u64 n] w fun e w' => e = .returned (.int .u32 (rotN n x : Nat)) ∧ w' = w := by
  go_enter Tryz.func155, Tryz.ntmps155
  go_wp2
  go_ret
  exact ⟨congrArg (fun z => Ending.returned (Value.int IntKind.u32 z)) (bits_rot (by omega) hx), rfl⟩

set_option maxHeartbeats 4000000 in
set_option maxRecDepth 100000 in
theorem rconst_walk (w : World) :
    Calls Tryz.prog 154 #[] w fun e w' => e = .returned (.agg (kSha.map wV).toArray) ∧ Below w.heap.size w w' := by
  go_enter Tryz.func154, Tryz.ntmps154
  go_upto_region 1 with fail
  generalize hw1 : w.alloc _ = w1
  have hz : w1.heap[w.heap.size]? = some (.cells (Array.replicate 64 (.int .u32 0)) 222 (0, 0)) := by
    rw [← hw1]
    exact heap_alloc_new _ _
  have hb : Below w.heap.size w w1 := by
    rw [← hw1]
    exact (Below.refl _ _).alloc (Nat.le_refl _) _
  clear hw1
  apply wp_region_lit
  refine wpList_build rfl 222 _ rfl (by as_aux_lemma => kernel_rfl) ?_
  refine wpList_store_row rfl 222 _ _ rfl w.heap.size (kSha.map wV).toArray rfl (by as_aux_lemma => kernel_rfl) 222 _ hz (by as_aux_lemma => kernel_rfl) rfl (by as_aux_lemma => kernel_rfl) ?_
  apply wpList_nil
  generalize hw2 : w1.setRow _ _ = w2
  have hz2 : w2.heap[w.heap.size]? = some (.cells (kSha.map wV).toArray 222 (0, 0)) := by
    rw [← hw2]
    exact setRow_heap w1 _ _ _ _ _ hz
  have hb2 : Below w.heap.size w w2 := by
    rw [← hw2]
    exact below_setRow hb (Nat.le_refl _) _
  clear hw2
  rename_i hK
  refine hK _ _ ?_
  apply wp_ret
  exact bodyPost_ret (v := .agg (kSha.map wV).toArray) (results_cell_row rfl _ _ w.heap.size 222 _ _ _ (by as_aux_lemma => kernel_rfl) hz2 Tryz.underlying222 rfl (by as_aux_lemma => kernel_rfl)) rfl ⟨rfl, hb2⟩

set_option maxHeartbeats 4000000 in
set_option maxRecDepth 100000 in
theorem rfirst_walk (w : World) :
    Calls Tryz.prog 140 #[] w fun e w' => e = .returned (.agg (h0Sha.words.map wV).toArray) ∧ Below w.heap.size w w' := by
  go_enter Tryz.func140, Tryz.ntmps140
  go_upto_region 1 with fail
  generalize hw1 : w.alloc _ = w1
  have hz : w1.heap[w.heap.size]? = some (.cells (Array.replicate 8 (.int .u32 0)) 205 (0, 0)) := by
    rw [← hw1]
    exact heap_alloc_new _ _
  have hb : Below w.heap.size w w1 := by
    rw [← hw1]
    exact (Below.refl _ _).alloc (Nat.le_refl _) _
  clear hw1
  apply wp_region_lit
  refine wpList_build rfl 205 _ rfl (by as_aux_lemma => kernel_rfl) ?_
  refine wpList_store_row rfl 205 _ _ rfl w.heap.size (h0Sha.words.map wV).toArray rfl (by as_aux_lemma => kernel_rfl) 205 _ hz (by as_aux_lemma => kernel_rfl) rfl (by as_aux_lemma => kernel_rfl) ?_
  apply wpList_nil
  generalize hw2 : w1.setRow _ _ = w2
  have hz2 : w2.heap[w.heap.size]? = some (.cells (h0Sha.words.map wV).toArray 205 (0, 0)) := by
    rw [← hw2]
    exact setRow_heap w1 _ _ _ _ _ hz
  have hb2 : Below w.heap.size w w2 := by
    rw [← hw2]
    exact below_setRow hb (Nat.le_refl _) _
  clear hw2
  rename_i hK
  refine hK _ _ ?_
  apply wp_ret
  exact bodyPost_ret (v := .agg (h0Sha.words.map wV).toArray) (results_cell_row rfl _ _ w.heap.size 205 _ _ _ (by as_aux_lemma => kernel_rfl) hz2 Tryz.underlying205 rfl (by as_aux_lemma => kernel_rfl)) rfl ⟨rfl, hb2⟩
end Go.Proofs.YtaompdnnkfmjhaaGreatDoor

namespace Go.Proofs.YtaompdnnkfmjhaaGreatDoor
open Go Go.RowKit

def edgeOn (md : Region.Mode) (o : Oper) (i : Nat) : Bool := o.after.toList.any (fun e => Region.binds md e && (e.on == i))
def nxtOf (md : Region.Mode) (ops : Array Oper) (i : Nat) : Nat :=
  ((List.range ops.size).find? (fun j => decide (i < j) && (match ops[j]? with | some o => edgeOn md o i | none => false))).getD 0
/-- Each of the first m refers only to earlier ones, and leads on to number m; all behind m wait for m. -/
def aheadOk (md : Region.Mode) (ops : Array Oper) (m : Nat) : Bool :=
  decide (m < ops.size) &&
  ((List.range m).all (fun i => match ops[i]? with
    | some o => o.after.toList.all (fun e => !Region.binds md e || decide (e.on < i)) && (decide (i < nxtOf md ops i) && (decide (nxtOf md ops i ≤ m) &&
        (match ops[nxtOf md ops i]? with | some o' => edgeOn md o' i | none => false)))
    | none => false) &&
  (List.range ops.size).all (fun j => decide (j ≤ m) || (match ops[j]? with | some o => edgeOn md o m | none => true)))

theorem count_flip {p q : Nat → Bool} {i : Nat} (hp : p i = true) (hq : q i = false) (h : ∀ j, j ≠ i → p j = q j) : ∀ m, (List.range m).countP p = (List.range m).countP q + (if i < m then 1 else 0)
  | 0 => by simp
  | m + 1 => by
    rw [List.range_succ, List.countP_append, List.countP_append, count_flip hp hq h m]
    by_cases e : m = i
    · subst e
      simp [hp, hq]
    · have h1 := h m e
      simp only [List.countP_singleton, h1]
      by_cases h2 : i < m
      · rw [if_pos h2, if_pos (show i < m + 1 by omega)]; omega
      · rw [if_neg h2, if_neg (show ¬ i < m + 1 by omega), Nat.add_zero, Nat.add_zero]

section
variable {md : Region.Mode} {ops : Array Oper} {m : Nat}

structure AheadI (md : Region.Mode) (ops : Array Oper) (m k : Nat) (listed : Array Bool) : Prop where
  size : listed.size = ops.size
  hi : ∀ j, m ≤ j → j < ops.size → listed.getD j true = false
  dc : ∀ i, i < m → listed.getD i true = true → ∀ o, ops[i]? = some o → ∀ e ∈ o.after, Region.binds md e = true → listed.getD e.on true = true
  cnt : (List.range m).countP (fun i => !listed.getD i true) = k

theorem edgeOn_iff {o : Oper} {i : Nat} (h : edgeOn md o i = true) : ∃ e ∈ o.after, Region.binds md e = true ∧ e.on = i := by
  unfold edgeOn at h
  obtain ⟨e, he, h2⟩ := List.any_eq_true.1 h
  simp only [Bool.and_eq_true, beq_iff_eq] at h2
  exact ⟨e, by simpa using he, h2.1, h2.2⟩
theorem getD_in {a : Array Bool} {i : Nat} (h : i < a.size) (x y : Bool) : a.getD i x = a.getD i y := by simp [Array.getD, h]
theorem getD_out {a : Array Bool} {i : Nat} (h : ¬ i < a.size) (x : Bool) : a.getD i x = x := by simp [Array.getD, h]

theorem ahead_of_ok (hok : aheadOk md ops m = true) : ∀ (k : Nat) (listed : Array Bool), AheadI md ops m k listed → ahead md ops m k listed = true := by
  unfold aheadOk at hok
  simp only [Bool.and_eq_true, decide_eq_true_eq, List.all_eq_true, List.mem_range, Bool.or_eq_true] at hok
  obtain ⟨hm, h1, h2⟩ := hok
  have hget : ∀ i, i < m → ∃ o, ops[i]? = some o ∧ (∀ e ∈ o.after, Region.binds md e = true → e.on < i) ∧ i < nxtOf md ops i ∧ nxtOf md ops i ≤ m ∧ ∃ o', ops[nxtOf md ops i]? = some o' ∧ edgeOn md o' i = true := by
    intro i hi
    have h3 := h1 i hi
    cases ho : ops[i]? with
    | none => rw [ho] at h3; cases h3
    | some o =>
      rw [ho] at h3
      simp only [Bool.and_eq_true, decide_eq_true_eq, List.all_eq_true, Bool.or_eq_true, Bool.not_eq_true'] at h3
      obtain ⟨h4, h5, h6, h7⟩ := h3
      refine ⟨o, rfl, fun e he hb => ?_, h5, h6, ?_⟩
      · rcases h4 e (by simpa using he) with h | h
        · rw [hb] at h; cases h
        · exact h
      · cases ho' : ops[nxtOf md ops i]? with
        | none => rw [ho'] at h7; cases h7
        | some o' => rw [ho'] at h7; exact ⟨o', rfl, h7⟩
  intro k
  induction k with
  | zero =>
    intro listed hI
    simp only [ahead, List.all_eq_true, List.mem_range]
    intro i hi
    have h3 := hI.cnt
    rw [List.countP_eq_zero] at h3
    have h4 := h3 i (List.mem_range.2 hi)
    simpa using h4
  | succ k ih =>
    intro listed hI
    -- some of the first m is not listed
    have hex : ∃ p, p < m ∧ listed.getD p true = false := by
      have h3 : 0 < (List.range m).countP (fun i => !listed.getD i true) := by rw [hI.cnt]; omega
      obtain ⟨p, hp, h4⟩ := List.countP_pos_iff.1 h3
      exact ⟨p, List.mem_range.1 hp, by simpa using h4⟩
    -- whoever is ready is one of the first m
    have hlow : ∀ i ∈ Region.ready md ops listed, i < m := by
      intro j hj
      obtain ⟨hju, o, hoj, hall⟩ := mem_ready.1 hj
      rcases Nat.lt_or_ge j m with h | hge
      · exact h
      exfalso
      have hjs : j < ops.size := (Array.getElem?_eq_some_iff.1 hoj).1
      rcases Nat.lt_or_ge m j with hgt | hle
      · have h3 := h2 j hjs
        rcases h3 with h3 | h3
        · omega
        · rw [hoj] at h3
          obtain ⟨e, he, hb, hon⟩ := edgeOn_iff h3
          have h4 := hall e he hb
          rw [hon, getD_in (by rw [hI.size]; exact hm) false true, hI.hi m (Nat.le_refl _) hm] at h4
          cases h4
      · obtain rfl : j = m := by omega
        -- the largest that is not listed
        have hdown : ∀ d, ∀ p, j - p ≤ d → p < j → listed.getD p true = true := by
          intro d
          induction d with
          | zero => intro p h3 h4; omega
          | succ d ihd =>
            intro p _ h4
            obtain ⟨o1, ho1, _, hn1, hn2, o2, ho2, hed⟩ := hget p h4
            obtain ⟨e, he, hb, hon⟩ := edgeOn_iff hed
            rcases Nat.lt_or_ge (nxtOf md ops p) j with h5 | h5
            · have h6 := ihd (nxtOf md ops p) (by omega) h5
              have h7 := hI.dc _ h5 h6 o2 ho2 e he hb
              rwa [hon] at h7
            · have h6 : nxtOf md ops p = j := by omega
              rw [h6, hoj] at ho2
              cases ho2
              have h7 := hall e he hb
              rw [hon] at h7
              rwa [getD_in (by rw [hI.size]; omega) true false]
        obtain ⟨p, hp, hpu⟩ := hex
        rw [hdown j p (by omega) hp] at hpu
        cases hpu
    -- the least that is not listed is ready
    have hne : Region.ready md ops listed ≠ [] := by
      obtain ⟨p, hp, hpu⟩ := hex
      have hmin : ∃ p, p < m ∧ listed.getD p true = false ∧ ∀ q, q < p → listed.getD q true = true := by
        clear hlow
        induction p using Nat.strongRecOn with
        | _ p ihp =>
          by_cases h3 : ∀ q, q < p → listed.getD q true = true
          · exact ⟨p, hp, hpu, h3⟩
          · obtain ⟨q, h4⟩ := Classical.not_forall.1 h3
            obtain ⟨h5, h6⟩ := Classical.not_imp.1 h4
            exact ihp q h5 (by omega) (by simpa using h6)
      obtain ⟨p, hp, hpu, hq⟩ := hmin
      obtain ⟨o, ho, hb, _⟩ := hget p hp
      refine List.ne_nil_of_mem (a := p) (mem_ready.2 ⟨hpu, o, ho, fun e he hbe => ?_⟩)
      have h3 := hb e he hbe
      rw [getD_in (by rw [hI.size]; omega) false true]
      exact hq _ h3
    simp only [ahead, Bool.and_eq_true, List.all_eq_true, decide_eq_true_eq]
    refine ⟨by cases hr : Region.ready md ops listed with | nil => exact absurd hr hne | cons a t => rfl, fun i hi => ⟨hlow i hi, ih _ ?_⟩⟩
    have him := hlow i hi
    obtain ⟨hiu, o, hoi, hall⟩ := mem_ready.1 hi
    have his : i < listed.size := by rw [hI.size]; omega
    have hself : ∀ x, (listed.setIfInBounds i true).getD i x = true := fun x => by simp [Array.getD, his]
    refine ⟨by simp [hI.size], fun j hj hjs => by rw [getD_set_ne true (by omega)]; exact hI.hi j hj hjs, ?_, ?_⟩
    · intro j hj hjl o2 ho2 e he hb
      by_cases hji : j = i
      · subst hji
        rw [hoi] at ho2
        cases ho2
        by_cases h3 : e.on = j
        · rw [h3]; exact hself true
        · have h4 := hall e he hb
          rw [getD_set_ne true (Ne.symm h3)]
          by_cases h5 : e.on < listed.size
          · rwa [getD_in h5 true false]
          · rw [getD_out h5]
      · rw [getD_set_ne true (Ne.symm hji)] at hjl
        have h4 := hI.dc j hj hjl o2 ho2 e he hb
        by_cases h3 : e.on = i
        · rw [h3]; exact hself true
        · rw [getD_set_ne true (Ne.symm h3)]; exact h4
    · have h3 := count_flip (p := fun j => !listed.getD j true) (q := fun j => !(listed.setIfInBounds i true).getD j true) (i := i) (by rw [hiu]; rfl) (by rw [hself]; rfl) (fun j hj => by rw [getD_set_ne true (Ne.symm hj)]) m
      rw [hI.cnt, if_pos him] at h3
      omega

theorem ahead_start (hok : aheadOk md ops m = true) {n : Nat} (hn : n = ops.size) : ahead md ops m m (Array.replicate n false) = true := by
  subst hn
  refine ahead_of_ok hok m _ ⟨by simp, fun j _ hj => by simp [Array.getD, hj], fun i hi h => ?_, ?_⟩
  · have hm : m < ops.size := by
      unfold aheadOk at hok
      simp only [Bool.and_eq_true, decide_eq_true_eq] at hok
      exact hok.1
    rw [show (Array.replicate ops.size false).getD i true = false by simp [Array.getD]; omega] at h
    cases h
  · have hm : m < ops.size := by
      unfold aheadOk at hok
      simp only [Bool.and_eq_true, decide_eq_true_eq] at hok
      exact hok.1
    have : (List.range m).countP (fun i => !(Array.replicate ops.size false).getD i true) = (List.range m).length := by
      rw [List.countP_eq_length]
      intro i hi
      have := List.mem_range.1 hi
      rw [show (Array.replicate ops.size false).getD i true = false by simp [Array.getD]; omega]; rfl
    rw [this, List.length_range]
end
section
variable {P : Program}
theorem wp_tail_quick {id : Nat} {Q : Exit → Act → World → Prop} {a : Act} {w : World} {l : List Oper} (m f : Nat) (hl : l.length = m + f) (hm : P.follows .mixedOrders = true) (hs : Region.noSelect l.toArray = true)
    (hB : lexPre .any l.toArray m 0 (Array.replicate (m + f) false) = true) (hA : aheadOk .any l.toArray m = true)
    (h : wpQuiet P l.toArray (fun w' => ∃ p : LaterOf w, w' = p.world) (fun a' => ∀ w', (∃ p : LaterOf w, w' = p.world) → wpAny P .any l.toArray Q f (listedTo m 0 (Array.replicate (m + f) false)) a' w') (l.take m) a) : (Code.region id l.toArray true).wp P Q a w :=
  wp_tail_later m f hl hm hs hB (ahead_start hA (by rw [List.size_toArray, hl])) h
end
end Go.Proofs.YtaompdnnkfmjhaaGreatDoor

namespace Go.Proofs.YtaompdnnkfmjhaaGreatDoor
open Go.RowKit

set_option maxHeartbeats 4000000 in
set_option maxRecDepth 100000 in
theorem words_walk (b : List UInt8) (hl : b.length = 64) (w : World) :
    Calls Tryz.prog 153 #[.agg (b.map bV).toArray] w fun e w' => e = .returned (.agg ((schedW b).map wV).toArray) ∧ Below w.heap.size w w' := by
  go_enter Tryz.func153, Tryz.ntmps153
  go_upto_region 2 with fail
  generalize hw1 : ((w.alloc _).alloc _).alloc _ = w1
  have hz0 : w1.heap[w.heap.size]? = some (.cells (b.map bV).toArray 207 (0, 0)) := by
    rw [← hw1, Below.heap_alloc _ _ _ (by simp; omega)]
    exact heap_alloc2_old _ _ _
  have hz1 : w1.heap[w.heap.size + 1]? = some (.cells (Array.replicate 64 (.int .u32 0)) 222 (0, 0)) := by
    rw [← hw1, Below.heap_alloc _ _ _ (by simp)]
    exact heap_alloc2_new _ _ _
  have hz2 : w1.heap[w.heap.size + 1 + 1]? = some (.cells (cellsW 64 ((firstW b).take 0)) 222 (0, 0)) := by
    rw [← hw1]
    exact heap_alloc3 _ _ _ _
  have hb : Below w.heap.size w w1 := by
    rw [← hw1]
    exact (((Below.refl _ _).alloc (Nat.le_refl _) _).alloc (by simp) _).alloc (by simp; omega) _
  clear hw1
  go_wp2
  go_loopw [4] (fun i wr => ∃ k : Nat, k ≤ 16 ∧ i = .int .i64 k ∧ wr.heap[w.heap.size + 1 + 1]? = some (.cells (cellsW 64 ((firstW b).take k)) 222 (0, 0)) ∧ Gro (w.heap.size + 1 + 1) w1 wr) (fun i _ => 16 - (intOf i).toNat)
  case atStart => exact ⟨0, Nat.zero_le _, rfl, hz2, gro_of (Below.refl _ _)⟩
  case round =>
    obtain ⟨k, hk, rfl, hzr, hG⟩ := hrel
    have hfl := firstW_len b
    by_cases h1 : k < 16
    · have h1' : (k : Int) < 16 := by omega
      have y0 := (hG.block w.heap.size (heap_lt hz0) (fun e => by have := Option.some.inj e; omega)).trans hz0
      have c0 := LaterOf.cell (arr_cell y0 (map_at (f := bV) (i := 4 * k) (by omega)))
      have c1 := LaterOf.cell (arr_cell y0 (map_at (f := bV) (i := 4 * k + 1) (by omega)))
      have c2 := LaterOf.cell (arr_cell y0 (map_at (f := bV) (i := 4 * k + 2) (by omega)))
      have c3 := LaterOf.cell (arr_cell y0 (map_at (f := bV) (i := 4 * k + 3) (by omega)))
      have htl : ((firstW b).take k).length = k := by rw [List.length_take]; omega
      have hwv := firstW_at (b := b) (k := k) (by omega)
      rw [wordB_at (by omega)] at hwv
      have HT := Lib.hid (List.take_succ_eq_append_getElem (l := firstW b) (i := k) (by omega))
      generalize b[4 * k] = x0 at *
      generalize b[4 * k + 1] = x1 at *
      generalize b[4 * k + 2] = x2 at *
      generalize b[4 * k + 3] = x3 at *
      unfold bV at c0 c1 c2 c3
      have HWV : Hid (bits BinOp.or IntKind.u32 (bits BinOp.or IntKind.u32 (bits BinOp.or IntKind.u32 ((x0.toNat : Int) % 4294967296 * 16777216 % 4294967296) ((x1.toNat : Int) % 4294967296 * 65536 % 4294967296)) ((x2.toNat : Int) % 4294967296 * 256 % 4294967296)) ((x3.toNat : Int) % 4294967296) = (((firstW b)[k]'(by omega) : Nat) : Int)) := Lib.hid (by
        rw [hwv, ← word_or (UInt8.toNat_lt x0) (UInt8.toNat_lt x1) (UInt8.toNat_lt x2) (UInt8.toNat_lt x3)]
        have h0 := shl_cast (s := 24) (UInt8.toNat_lt x0) (by omega)
        have h1 := shl_cast (s := 16) (UInt8.toNat_lt x1) (by omega)
        have h2 := shl_cast (s := 8) (UInt8.toNat_lt x2) (by omega)
        have h3 := UInt8.toNat_lt x3
        rw [show ((x3.toNat : Int) % 4294967296) = (x3.toNat : Int) by omega]
        rw [← h0, ← h1, ← h2]
        rfl)
      generalize (firstW b)[k]'(by omega) = wd at *
      have HZR := Lib.hid hzr
      have HG := Lib.hid hG
      have HTL := Lib.hid htl
      clear hzr hG y0 hwv htl hfl
      go_upto_region 5 with fail
      (refine wp_tail_quick 31 1 rfl (by kernel_rfl) (by kernel_rfl) (by kernel_rfl) (by kernel_rfl) ?_; simp only [List.take_succ_cons, List.take_zero]; (repeat (go_big_quiet_step (fail))); refine wpQuiet_nil ?_; intro _ hw1; obtain ⟨lw, hw2⟩ := hw1; subst hw2)
      rw [HWV.out]
      have hz4 := (lw.below.block _ (heap_lt HZR.out)).trans HZR.out
      have HG4 := Lib.hid (gro_chain HG.out lw.below)
      have f1 := arr_frozen (i := k) hz4
      have d1 := arr_cell hz4 (cellsW_zero (n := 64) (i := k) (by have := HTL.out; omega) (by omega))
      have s1 := is_some d1
      have HA := Lib.hid (arr_push' (x := wd) hz4 (by have := HTL.out; omega))
      rw [HTL.out] at HA
      clear c0 c1 c2 c3 hz4 HWV
      (refine wpAny_ready (rs := [31]) (by kernel_rfl) (by simp) ?_; refine AllReady.cons rfl (fun K hK => ?_) AllReady.nil; go_simp; refine hK _ _ ?_; clear hK K)
      refine wpAny_done (by kernel_rfl) ?_ _
      obtain ⟨w3, hw3⟩ : ∃ w3, w3 = lw.world.setCell ⟨w.heap.size + 1 + 1, k, none⟩ (.int .u32 ((wd : Nat) : Int)) := ⟨_, rfl⟩
      rw [← hw3]
      have HA2 : Hid (w3.heap[w.heap.size + 1 + 1]? = some (.cells (cellsW 64 ((firstW b).take (k + 1))) 222 (0, 0))) := by rw [hw3, HT.out]; exact HA
      have HG5 : Hid (Gro (w.heap.size + 1 + 1) w1 w3) := Lib.hid (by rw [hw3]; exact gro_set HG4.out _ _)
      clear hw3 HA f1 d1 s1
      go_wp2
      go_roundw
      case rel => exact ⟨k + 1, by omega, by go_num, HA2.out, HG5.out⟩
      case measure => simp [intOf]; omega
    · obtain rfl : k = 16 := by omega
      rw [List.take_of_length_le (by rw [hfl]; exact Nat.le_refl _)] at hzr
      rw [show ((16 : Nat) : Int) = 16 from rfl]
      go_wp2
      obtain ⟨w2, rfl⟩ : ∃ w2 : World, w2 = wr := ⟨_, rfl⟩
      have HZ1 := Lib.hid hz1
      clear hz0 hz1 hz2 hk h1
      go_loopw [5] (fun i wr => ∃ (ws : List Nat) (m : Nat), ws.length = m + 16 ∧ m ≤ 48 ∧ i = .int .i64 ((m : Int) + 16) ∧ W32 ws ∧ extW (48 - m) ws = schedW b ∧ wr.heap[w.heap.size + 1 + 1]? = some (.cells (cellsW 64 ws) 222 (0, 0)) ∧ Gro (w.heap.size + 1 + 1) w1 wr) (fun i _ => 64 - (intOf i).toNat)
      case atStart => exact ⟨firstW b, 0, hfl, by omega, rfl, firstW_32 b, rfl, hzr, hG⟩
      case round =>
        clear hzr hG hfl
        obtain ⟨ws, m, hwl, hm, rfl, h32, hext, hzr, hG⟩ := hrel
        by_cases h1 : m < 48
        · have h1' : (m : Int) + 16 < 64 := by omega
          have c0 := arr_cell hzr (cellsW_at (i := m) (by omega))
          have c1 := arr_cell hzr (cellsW_at (i := m + 1) (by omega))
          have c9 := arr_cell hzr (cellsW_at (i := m + 9) (by omega))
          have c14 := arr_cell hzr (cellsW_at (i := m + 14) (by omega))
          have HN := Lib.hid (nextW_at hwl)
          have HE := Lib.hid ((extW_one (n := 48 - m) (ws := ws) (by omega)).symm.trans hext)
          have hx1 := h32.at (i := m + 1) (by omega)
          have hx0 := h32.at (i := m) (by omega)
          have hx9 := h32.at (i := m + 9) (by omega)
          have hx14 := h32.at (i := m + 14) (by omega)
          generalize ws[m + 1] = x1 at *
          generalize ws[m] = x0 at *
          generalize ws[m + 9] = x9 at *
          generalize ws[m + 14] = x14 at *
          unfold wV at c0 c1 c9 c14
          have q0 := LaterOf.cell c0
          have q9 := LaterOf.cell c9
          have HZR := Lib.hid hzr
          have HG := Lib.hid hG
          have H32 := Lib.hid h32
          have HWL := Lib.hid hwl
          clear hzr hG h32 hext hwl
          have D1 : ∀ W : World, Calls Tryz.prog 155 #[.int .u32 x1, .int .u64 7] W fun e w' => e = .returned (.int .u32 (rotN 7 x1 : Nat)) ∧ w' = W := fun W => rot_walk x1 7 W hx1 (by decide) (by decide)
          have D2 : ∀ W : World, Calls Tryz.prog 155 #[.int .u32 x1, .int .u64 18] W fun e w' => e = .returned (.int .u32 (rotN 18 x1 : Nat)) ∧ w' = W := fun W => rot_walk x1 18 W hx1 (by decide) (by decide)
          have D3 : ∀ W : World, Calls Tryz.prog 155 #[.int .u32 x14, .int .u64 17] W fun e w' => e = .returned (.int .u32 (rotN 17 x14 : Nat)) ∧ w' = W := fun W => rot_walk x14 17 W hx14 (by decide) (by decide)
          have D4 : ∀ W : World, Calls Tryz.prog 155 #[.int .u32 x14, .int .u64 19] W fun e w' => e = .returned (.int .u32 (rotN 19 x14 : Nat)) ∧ w' = W := fun W => rot_walk x14 19 W hx14 (by decide) (by decide)
          go_wp2_with (first | (go_at_call 155; (with_reducible refine (D1 _).mono ?_); rintro r wz ⟨rfl, rfl⟩) | (go_at_call 155; (with_reducible refine (D2 _).mono ?_); rintro r wz ⟨rfl, rfl⟩) | (go_at_call 155; (with_reducible refine (D3 _).mono ?_); rintro r wz ⟨rfl, rfl⟩) | (go_at_call 155; (with_reducible refine (D4 _).mono ?_); rintro r wz ⟨rfl, rfl⟩))
          rw [ssA_val hx1, ssB_val hx14]
          clear D1 D2 D3 D4
          (refine wp_tail_quick 15 1 rfl (by kernel_rfl) (by kernel_rfl) (by kernel_rfl) (by kernel_rfl) ?_; simp only [List.take_succ_cons, List.take_zero]; (repeat (go_big_quiet_step (fail))); refine wpQuiet_nil ?_; intro _ hw1; obtain ⟨lw, hw2⟩ := hw1; subst hw2)
          rw [show ((((x0 : Int) + (ssA x1 : Nat) + x9) % 4294967296 + (ssB x14 : Nat)) % 4294967296) = ((nextW ws : Nat) : Int) by rw [HN.out]; omega]
          have hz4 := (lw.below.block _ (heap_lt HZR.out)).trans HZR.out
          have HG4 := Lib.hid (gro_chain HG.out lw.below)
          have f1 := arr_frozen (i := m + 16) hz4
          have d1 := arr_cell hz4 (cellsW_zero (n := 64) (i := m + 16) (by have := HWL.out; omega) (by omega))
          have s1 := is_some d1
          have HA := Lib.hid (arr_push' (x := nextW ws) hz4 (by have := HWL.out; omega))
          rw [HWL.out] at HA
          clear q0 q9 c0 c1 c9 c14 hz4
          (refine wpAny_ready (rs := [15]) (by kernel_rfl) (by simp) ?_; refine AllReady.cons rfl (fun K hK => ?_) AllReady.nil; go_simp; refine hK _ _ ?_; clear hK K)
          refine wpAny_done (by kernel_rfl) ?_ _
          obtain ⟨w3, hw3⟩ : ∃ w3, w3 = lw.world.setCell ⟨w.heap.size + 1 + 1, m + 16, none⟩ (.int .u32 ((nextW ws : Nat) : Int)) := ⟨_, rfl⟩
          rw [← hw3]
          have HA2 : Hid (w3.heap[w.heap.size + 1 + 1]? = some (.cells (cellsW 64 (ws ++ [nextW ws])) 222 (0, 0))) := by rw [hw3]; exact HA
          have HG5 : Hid (Gro (w.heap.size + 1 + 1) w1 w3) := Lib.hid (by rw [hw3]; exact gro_set HG4.out _ _)
          clear hw3 HA f1 d1 s1
          go_wp2
          go_roundw
          case rel => exact ⟨ws ++ [nextW ws], m + 1, by rw [List.length_append, HWL.out]; rfl, by omega, by go_num, H32.out.snoc (nextW_lt _), by rw [← HE.out, show 48 - (m + 1) = 48 - m - 1 by omega], HA2.out, HG5.out⟩
          case measure => simp [intOf]; omega
        · obtain rfl : m = 48 := by omega
          have hws : ws = schedW b := hext
          rw [cellsW_all (by omega), hws] at hzr
          have hz1 := (hG.block _ (heap_lt HZ1.out) (fun e => by have := Option.some.inj e; omega)).trans HZ1.out
          have hsz : (Tryz.prog.info? 222).map (·.size) = some (((schedW b).map wV).toArray).size := by
            simp only [List.size_toArray, List.length_map, schedW_len]
            kernel_rfl
          have hsz2 : (Array.replicate 64 (Value.int .u32 0)).size = (((schedW b).map wV).toArray).size := by
            simp only [List.size_toArray, List.length_map, schedW_len, Array.size_replicate]
          have HB := Lib.hid (hb.trans (gro_below hG (by omega) hb.size))
          have hone := one_map (f := wV) (fun _ => rfl) (schedW b)
          clear hext h32 hws hwl hG
          go_upto_region 14 with fail
          apply wp_region_lit
          refine wpList_load_row rfl 222 _ rfl (w.heap.size + 1 + 1) rfl 222 _ _ _ hzr Tryz.underlying222 rfl hsz ?_
          refine wpList_store_row rfl 222 _ _ rfl (w.heap.size + 1) ((schedW b).map wV).toArray rfl (by as_aux_lemma => kernel_rfl) 222 _ hz1 hsz hsz2 hone ?_
          apply wpList_nil
          generalize hw2 : wr.setRow _ _ = w3
          have hz3 : w3.heap[w.heap.size + 1]? = some (.cells ((schedW b).map wV).toArray 222 (0, 0)) := by
            rw [← hw2]
            exact setRow_heap wr _ _ _ _ _ hz1
          have hb3 : Below w.heap.size w w3 := by
            rw [← hw2]
            exact below_setRow HB.out (by omega) _
          clear hw2
          rename_i hK
          refine hK _ _ ?_
          apply wp_ret
          exact bodyPost_ret (v := .agg ((schedW b).map wV).toArray) (results_cell_row rfl _ _ (w.heap.size + 1) 222 _ _ _ (by as_aux_lemma => kernel_rfl) hz3 Tryz.underlying222 rfl hsz) rfl ⟨rfl, hb3⟩
end Go.Proofs.YtaompdnnkfmjhaaGreatDoor
