/- Regions that draw their order, at the class of all later worlds: those that lie over the world at hand, which stays as it is. Regions that draw their order: loads of cells that stay are taken first; then the calls, one by one. Regions that draw their order: the first m operations, quiet in a class of worlds, are walked once; then those that wait for all of them. No program in sight. Regions that draw their order: a quick test that the first m operations come ahead of all others. No program in sight. -/
import Derived.Test.YtffdcnhpjgpcdaaGreatDoorBase
import Derived.Deep.Cut
import Derived.Deep.RegionWith
import Derived.OrdersHeld
import Derived.RegionTactic
namespace Go.Proofs.YtffdcnhpjgpcdaaGreatDoor
open Go.RowKit

/-- A world that lies over w: what lies in w lies there still. -/
structure LaterOf (w : World) where
  world : World
  below : Below w.heap.size w world

def LaterOf.start (w : World) : LaterOf w := ⟨w, Below.refl _ _⟩
instance (w : World) : Inhabited (LaterOf w) := ⟨LaterOf.start w⟩
theorem LaterOf.cell {w : World} {b o : Nat} {v : Value} (h : w.cell? ⟨b, o, none⟩ = some v) (p : LaterOf w) : p.world.cell? ⟨b, o, none⟩ = some v := cell_below p.below h

theorem wp_region_later {P : Program} {id : Nat} {Q : Exit → Act → World → Prop} {a : Act} {w : World} {l : List Oper} (hm : P.follows .mixedOrders = true) (hB : Region.lexB .any l.toArray = true)
    (h : wpQuiet P l.toArray (fun w' => ∃ p : LaterOf w, w' = p.world) (fun a' => ∀ w', (∃ p : LaterOf w, w' = p.world) → Q .normal a' w') l a) : (Code.region id l.toArray true).wp P Q a w :=
  wp_region_quiet (C := fun w' => ∃ p : LaterOf w, w' = p.world) hm hB ⟨⟨{ w with drawn := w.drawn + 1 }, ⟨rfl, rfl, rfl, Nat.le_refl _, fun _ _ => rfl⟩⟩, rfl⟩ (by simpa using h)

/-- A callee's contract, met in a later world. -/
theorem LaterOf.call {P : Program} {f : FuncId} {args : Array Value} {w : World} {v : Value} (p : LaterOf w)
    (h : Calls P f args p.world fun e w' => e = .returned v ∧ Below p.world.heap.size p.world w') : Calls P f args p.world fun e w'' => e = .returned v ∧ ∃ p' : LaterOf w, w'' = p'.world :=
  h.mono fun _ w' ⟨he, hb⟩ => ⟨he, ⟨w', below_chain p.below hb p.below.size⟩, rfl⟩
theorem LaterOf.still {P : Program} {f : FuncId} {args : Array Value} {w : World} {v : Value} (p : LaterOf w)
    (h : Calls P f args p.world fun e w' => e = .returned v ∧ w' = p.world) : Calls P f args p.world fun e w'' => e = .returned v ∧ ∃ p' : LaterOf w, w'' = p'.world :=
  h.mono fun _ _ ⟨he, hb⟩ => ⟨he, p, hb⟩
end Go.Proofs.YtffdcnhpjgpcdaaGreatDoor

namespace Go.Proofs.YtffdcnhpjgpcdaaGreatDoor
open Go Go.RowKit

abbrev LaterS (w : World) (w' : World) : Prop := ∃ p : LaterOf w, w' = p.world
theorem wp_held {P : Program} {id : Nat} {ops : Array Oper} {Q : Exit → Act → World → Prop} {a : Act} {w : World} (hm : P.follows .mixedOrders = true)
    (h : ∀ lw : LaterOf w, wpAnyH P .any ops Q (LaterS w) ops.size (Array.replicate ops.size false) a lw.world) : (Code.region id ops true).wp P Q a w :=
  wp_region_held hm (h ⟨{ w with drawn := w.drawn + 1 }, ⟨rfl, rfl, rfl, Nat.le_refl _, fun _ _ => rfl⟩⟩)
section
variable {P : Program} {ops : Array Oper} {md : Region.Mode} {Q : Exit → Act → World → Prop} {S : World → Prop}
theorem wpAnyH_one {i : Nat} {o : Oper} {fuel : Nat} {listed : Array Bool} {a : Act} {w : World} (hr : Region.ready md ops listed = [i]) (ho : ops[i]? = some o)
    (h : ∀ K' : Act → World → Prop, (∀ a w, S w → wpAnyH P md ops Q S fuel (listed.setIfInBounds i true) a w → K' a w) → if Region.wanted o (yielded ops a.tmps) = true then Oper.wp P o a w K' Q else K' (a.put o.dst undef) w) :
    wpAnyH P md ops Q S (fuel + 1) listed a w :=
  wpAnyH_all hr (by simp) fun j hj => by
    obtain rfl := List.mem_singleton.1 hj
    exact wpOp_step ho fun K' hK => h K' fun a w h1 h2 => hK a w ⟨h1, h2⟩
theorem wpAnyH_two {i j : Nat} {o o' : Oper} {fuel : Nat} {listed : Array Bool} {a : Act} {w : World} (hr : Region.ready md ops listed = [i, j]) (ho : ops[i]? = some o) (ho' : ops[j]? = some o')
    (h : ∀ K' : Act → World → Prop, (∀ a w, S w → wpAnyH P md ops Q S fuel (listed.setIfInBounds i true) a w → K' a w) → if Region.wanted o (yielded ops a.tmps) = true then Oper.wp P o a w K' Q else K' (a.put o.dst undef) w)
    (h' : ∀ K' : Act → World → Prop, (∀ a w, S w → wpAnyH P md ops Q S fuel (listed.setIfInBounds j true) a w → K' a w) → if Region.wanted o' (yielded ops a.tmps) = true then Oper.wp P o' a w K' Q else K' (a.put o'.dst undef) w) :
    wpAnyH P md ops Q S (fuel + 1) listed a w :=
  wpAnyH_all hr (by simp) fun x hx => by
    rcases List.mem_cons.1 hx with rfl | hx
    · exact wpOp_step ho fun K' hK => h K' fun a w h1 h2 => hK a w ⟨h1, h2⟩
    · obtain rfl := List.mem_singleton.1 hx
      exact wpOp_step ho' fun K' hK => h' K' fun a w h1 h2 => hK a w ⟨h1, h2⟩
end
end Go.Proofs.YtffdcnhpjgpcdaaGreatDoor

namespace Go.Proofs.YtffdcnhpjgpcdaaGreatDoor
open Go Go.RowKit

section
variable {P : Program} {ops : Array Oper} {md : Region.Mode} {C : World → Prop}

/-- Whatever order is picked, the first m come ahead of all others. -/
def ahead (md : Region.Mode) (ops : Array Oper) (m : Nat) : Nat → Array Bool → Bool
  | 0, listed => (List.range m).all fun i => listed.getD i true
  | k + 1, listed => !(Region.ready md ops listed).isEmpty && (Region.ready md ops listed).all fun i => decide (i < m) && ahead md ops m k (listed.setIfInBounds i true)
def lexPre (md : Region.Mode) (ops : Array Oper) : Nat → Nat → Array Bool → Bool
  | 0, _, _ => true
  | n + 1, k, listed => (Region.ready md ops listed).contains k && Region.free md ops listed k && lexPre md ops n (k + 1) (listed.setIfInBounds k true)
def listedTo : Nat → Nat → Array Bool → Array Bool
  | 0, _, listed => listed
  | n + 1, k, listed => listedTo n (k + 1) (listed.setIfInBounds k true)

/-- Whatever order is picked of the first ones; then T. -/
def wpPre (P : Program) (md : Region.Mode) (ops : Array Oper) (C : World → Prop) (T : Array Bool → Act → Prop) : Nat → Array Bool → Act → Prop
  | 0, listed, a => T listed a
  | k + 1, listed, a => Region.ready md ops listed ≠ [] ∧ ∀ i ∈ Region.ready md ops listed, qOp P ops C i (wpPre P md ops C T k (listed.setIfInBounds i true)) a

theorem wpAny_of_pre {Q' : Exit → Act → World → Prop} {f : Nat} : ∀ (k : Nat) (listed : Array Bool) (a : Act) (w : World), C w →
    wpPre P md ops C (fun listed a => ∀ w, C w → wpAny P md ops Q' f listed a w) k listed a → wpAny P md ops Q' (k + f) listed a w
  | 0, _, _, w, hw, h => by rw [Nat.zero_add]; exact h w hw
  | k + 1, _, _, w, hw, h => by
    rw [Nat.succ_add]
    exact ⟨fun h0 => absurd h0 h.1, fun i hi => wpOp_of_qOp hw (fun a' w' hw' => wpAny_of_pre k _ a' w' hw') (h.2 i hi)⟩

theorem ahead_at {m k : Nat} {listed : Array Bool} (h : ahead md ops m (k + 1) listed = true) {i : Nat} (hi : i ∈ Region.ready md ops listed) : i < m ∧ ahead md ops m k (listed.setIfInBounds i true) = true := by
  simp only [ahead, Bool.and_eq_true, List.all_eq_true, decide_eq_true_eq] at h
  exact h.2 i hi

theorem wpPre_first {T : Array Bool → Act → Prop} {m i : Nat} {oi : Oper} {v : Value} (hi : ops[i]? = some oi) (hsel : ∀ (j : Nat) (o : Oper) cs b, ops[j]? = some o → o.op ≠ .select cs b) :
    ∀ (k : Nat) (listed : Array Bool) (a : Act), ahead md ops m (k + 1) listed = true →
      (∀ j oj, ops[j]? = some oj → j ≠ i → listed.getD j true = false → (∀ e ∈ oj.after, Region.binds md e = true → e.on ≠ i) → oi.apart ops oj = true) →
      i ∈ Region.ready md ops listed → YieldsIn P ops C oi v a →
      wpPre P md ops C T k (listed.setIfInBounds i true) (a.put oi.dst v) → wpPre P md ops C T (k + 1) listed a := by
  intro k
  induction k with
  | zero =>
    intro listed a hA _ hr hy H
    refine ⟨List.ne_nil_of_mem hr, fun j hj => ?_⟩
    by_cases hji : j = i
    · subst hji; exact hy.qOp hi H
    · exfalso
      have h1 := (ahead_at hA hr).2
      have h2 := (ahead_at hA hj).1
      simp only [ahead, List.all_eq_true, List.mem_range] at h1
      have h3 := h1 j h2
      rw [getD_set_ne true (Ne.symm hji), (mem_ready.1 hj).1] at h3
      cases h3
  | succ k ih =>
    intro listed a hA hfree hr hy H
    refine ⟨List.ne_nil_of_mem hr, fun j hj => ?_⟩
    by_cases hji : j = i
    · subst hji; exact hy.qOp hi H
    · have h1 := H.2 j (ready_mono hj hji)
      obtain ⟨hjun, oj, hoj, hall⟩ := mem_ready.1 hj
      have hnot : ∀ e ∈ oj.after, Region.binds md e = true → e.on ≠ i := fun e he hb heq => by
        have h1 := hall e he hb
        have h0 := (mem_ready.1 hr).1
        rw [heq] at h1
        rcases Nat.lt_or_ge i listed.size with h' | h'
        · simp [h'] at h0 h1; rw [h0] at h1; cases h1
        · simp [Array.getElem?_eq_none h'] at h1
      have h2 := qOp_put hoj (hfree j oj hoj hji hjun hnot) (fun cs b => hsel i oi cs b hi) (fun cs b => hsel j oj cs b hoj) hy h1
      have hfree' : ∀ k ok, ops[k]? = some ok → k ≠ i → (listed.setIfInBounds j true).getD k true = false →
          (∀ e ∈ ok.after, Region.binds md e = true → e.on ≠ i) → oi.apart ops ok = true := fun k ok hk hki hun hno => by
        refine hfree k ok hk hki ?_ hno
        by_cases hjk : j = k
        · subst hjk; exact hjun
        · rw [getD_set_ne true hjk] at hun; exact hun
      refine qOp_mono (fun a' h3 => ih (listed.setIfInBounds j true) a' (ahead_at hA hj).2 hfree' (ready_mono hr (Ne.symm hji)) h3.1 ?_) h2
      rw [Array.setIfInBounds_comm _ _ hji]
      exact h3.2

theorem wpPre_lex {Q : Act → Prop} {m : Nat} {L : Array Bool} (hs : Region.noSelect ops = true) : ∀ (l : List Oper) (k : Nat) (listed : Array Bool) (a : Act), (∀ j, j < l.length → l[j]? = ops[k + j]?) →
    lexPre md ops l.length k listed = true → ahead md ops m l.length listed = true → listedTo l.length k listed = L → wpQuiet P ops C Q l a → wpPre P md ops C (fun listed a => listed = L ∧ Q a) l.length listed a
  | [], _, _, _, _, _, _, hL, h => ⟨hL, h⟩
  | o :: l, k, listed, a, hl, hB, hA, hL, h => by
    have h0 : ops[k]? = some o := by simpa using (hl 0 (by simp)).symm
    simp only [List.length_cons, lexPre, Bool.and_eq_true] at hB
    obtain ⟨⟨hr, hf⟩, hB'⟩ := hB
    have hst : qOp P ops C k (wpQuiet P ops C Q l) a := by unfold qOp; simp only [h0]; exact h
    obtain ⟨v, hy, hK⟩ := yieldsIn_of_qOp h0 hst
    have hr' : k ∈ Region.ready md ops listed := by simpa using hr
    exact wpPre_first h0 (Region.noSelect_spec hs) l.length listed a hA (Region.free_spec h0 hf) hr' hy
      (wpPre_lex hs l (k + 1) _ _ (fun j hj => by have := hl (j + 1) (by simpa using hj); simpa [Nat.add_assoc, Nat.add_comm 1 j] using this) hB' (ahead_at hA hr').2 hL hK)

theorem wpPre_mono {T T' : Array Bool → Act → Prop} (h : ∀ l a, T l a → T' l a) : ∀ (k : Nat) (listed : Array Bool) (a : Act), wpPre P md ops C T k listed a → wpPre P md ops C T' k listed a
  | 0, _, _, hh => h _ _ hh
  | k + 1, _, _, hh => ⟨hh.1, fun i hi => qOp_mono (fun a' => wpPre_mono h k _ a') (hh.2 i hi)⟩

/-- The first m operations, walked once in a class of worlds; then the others, that wait for them. -/
theorem wp_region_tail {id : Nat} {Q : Exit → Act → World → Prop} {a : Act} {w : World} {l : List Oper} (m f : Nat) (hl : l.length = m + f) (hm : P.follows .mixedOrders = true) (hs : Region.noSelect l.toArray = true)
    (hB : lexPre .any l.toArray m 0 (Array.replicate (m + f) false) = true) (hA : ahead .any l.toArray m m (Array.replicate (m + f) false) = true) (hC : C { w with drawn := w.drawn + 1 })
    (h : wpQuiet P l.toArray C (fun a' => ∀ w', C w' → wpAny P .any l.toArray Q f (listedTo m 0 (Array.replicate (m + f) false)) a' w') (l.take m) a) : (Code.region id l.toArray true).wp P Q a w := by
  refine wp_region_any hm ?_
  rw [List.size_toArray, hl]
  have hlt : (l.take m).length = m := by rw [List.length_take]; omega
  refine wpAny_of_pre m _ a _ hC ?_
  have := wpPre_lex (C := C) (md := .any) (m := m) (L := listedTo m 0 (Array.replicate (m + f) false)) hs (l.take m) 0 (Array.replicate (m + f) false) a (fun j hj => by
    rw [hlt] at hj
    rw [List.getElem?_take, if_pos hj]; simp) (by rw [hlt]; exact hB) (by rw [hlt]; exact hA) (by rw [hlt]) h
  rw [hlt] at this
  exact wpPre_mono (fun l a ⟨h1, h2⟩ => by subst h1; exact h2) _ _ _ this
theorem wp_tail_later {id : Nat} {Q : Exit → Act → World → Prop} {a : Act} {w : World} {l : List Oper} (m f : Nat) (hl : l.length = m + f) (hm : P.follows .mixedOrders = true) (hs : Region.noSelect l.toArray = true)
    (hB : lexPre .any l.toArray m 0 (Array.replicate (m + f) false) = true) (hA : ahead .any l.toArray m m (Array.replicate (m + f) false) = true)
    (h : wpQuiet P l.toArray (fun w' => ∃ p : LaterOf w, w' = p.world) (fun a' => ∀ w', (∃ p : LaterOf w, w' = p.world) → wpAny P .any l.toArray Q f (listedTo m 0 (Array.replicate (m + f) false)) a' w') (l.take m) a) : (Code.region id l.toArray true).wp P Q a w :=
  wp_region_tail (C := fun w' => ∃ p : LaterOf w, w' = p.world) m f hl hm hs hB hA ⟨⟨{ w with drawn := w.drawn + 1 }, ⟨rfl, rfl, rfl, Nat.le_refl _, fun _ _ => rfl⟩⟩, rfl⟩ h
end
end Go.Proofs.YtffdcnhpjgpcdaaGreatDoor

namespace Go.Proofs.YtffdcnhpjgpcdaaGreatDoor
open Go Go.RowKit

def edgeOn (md : Region.Mode) (o : Oper) (i : Nat) : Bool := o.after.toList.any (fun e => Region.binds md e && (e.on == i))
def nxtOf (md : Region.Mode) (ops : Array Oper) (i : Nat) : Nat :=
  ((List.range ops.size).find? (fun j => decide (i < j) && (match ops[j]? with | some o => edgeOn md o i | none => false))).getD 0
/-- Each of the first m refers only to earlier ones, and leads on to number m; all behind m wait for m. -/
def aheadOk (md : Region.Mode) (ops : Array Oper) (m : Nat) : Bool :=
  decide (m < ops.size) &&
  ((List.range m).all (fun i => match ops[i]? with
    | some o => o.after.toList.all (fun e => !Region.binds md e || decide (e.on < i)) && (decide (i < nxtOf md ops i) && (decide (nxtOf md ops i ≤ m) &&
        (match ops[nxtOf md ops i]? with | some o' => edgeOn md o' i | none => false)))
    | none => false) &&
  (List.range ops.size).all (fun j => decide (j ≤ m) || (match ops[j]? with | some o => edgeOn md o m | none => true)))

theorem count_flip {p q : Nat → Bool} {i : Nat} (hp : p i = true) (hq : q i = false) (h : ∀ j, j ≠ i → p j = q j) : ∀ m, (List.range m).countP p = (List.range m).countP q + (if i < m then 1 else 0)
  | 0 => by simp
  | m + 1 => by
    rw [List.range_succ, List.countP_append, List.countP_append, count_flip hp hq h m]
    by_cases e : m = i
    · subst e
      simp [hp, hq]
    · have h1 := h m e
      simp only [List.countP_singleton, h1]
      by_cases h2 : i < m
      · rw [if_pos h2, if_pos (show i < m + 1 by omega)]; omega
      · rw [if_neg h2, if_neg (show ¬ i < m + 1 by omega), Nat.add_zero, Nat.add_zero]

section
variable {md : Region.Mode} {ops : Array Oper} {m : Nat}

structure AheadI (md : Region.Mode) (ops : Array Oper) (m k : Nat) (listed : Array Bool) : Prop where
  size : listed.size = ops.size
  hi : ∀ j, m ≤ j → j < ops.size → listed.getD j true = false
  dc : ∀ i, i < m → listed.getD i true = true → ∀ o, ops[i]? = some o → ∀ e ∈ o.after, Region.binds md e = true → listed.getD e.on true = true
  cnt : (List.range m).countP (fun i => !listed.getD i true) = k

theorem edgeOn_iff {o : Oper} {i : Nat} (h : edgeOn md o i = true) : ∃ e ∈ o.after, Region.binds md e = true ∧ e.on = i := by
  unfold edgeOn at h
  obtain ⟨e, he, h2⟩ := List.any_eq_true.1 h
  simp only [Bool.and_eq_true, beq_iff_eq] at h2
  exact ⟨e, by simpa using he, h2.1, h2.2⟩
theorem getD_in {a : Array Bool} {i : Nat} (h : i < a.size) (x y : Bool) : a.getD i x = a.getD i y := by simp [Array.getD, h]
theorem getD_out {a : Array Bool} {i : Nat} (h : ¬ i < a.size) (x : Bool) : a.getD i x = x := by simp [Array.getD, h]

theorem ahead_of_ok (hok : aheadOk md ops m = true) : ∀ (k : Nat) (listed : Array Bool), AheadI md ops m k listed → ahead md ops m k listed = true := by
  unfold aheadOk at hok
  simp only [Bool.and_eq_true, decide_eq_true_eq, List.all_eq_true, List.mem_range, Bool.or_eq_true] at hok
  obtain ⟨hm, h1, h2⟩ := hok
  have hget : ∀ i, i < m → ∃ o, ops[i]? = some o ∧ (∀ e ∈ o.after, Region.binds md e = true → e.on < i) ∧ i < nxtOf md ops i ∧ nxtOf md ops i ≤ m ∧ ∃ o', ops[nxtOf md ops i]? = some o' ∧ edgeOn md o' i = true := by
    intro i hi
    have h3 := h1 i hi
    cases ho : ops[i]? with
    | none => rw [ho] at h3; cases h3
    | some o =>
      rw [ho] at h3
      simp only [Bool.and_eq_true, decide_eq_true_eq, List.all_eq_true, Bool.or_eq_true, Bool.not_eq_true'] at h3
      obtain ⟨h4, h5, h6, h7⟩ := h3
      refine ⟨o, rfl, fun e he hb => ?_, h5, h6, ?_⟩
      · rcases h4 e (by simpa using he) with h | h
        · rw [hb] at h; cases h
        · exact h
      · cases ho' : ops[nxtOf md ops i]? with
        | none => rw [ho'] at h7; cases h7
        | some o' => rw [ho'] at h7; exact ⟨o', rfl, h7⟩
  intro k
  induction k with
  | zero =>
    intro listed hI
    simp only [ahead, List.all_eq_true, List.mem_range]
    intro i hi
    have h3 := hI.cnt
    rw [List.countP_eq_zero] at h3
    have h4 := h3 i (List.mem_range.2 hi)
    simpa using h4
  | succ k ih =>
    intro listed hI
    -- some of the first m is not listed
    have hex : ∃ p, p < m ∧ listed.getD p true = false := by
      have h3 : 0 < (List.range m).countP (fun i => !listed.getD i true) := by rw [hI.cnt]; omega
      obtain ⟨p, hp, h4⟩ := List.countP_pos_iff.1 h3
      exact ⟨p, List.mem_range.1 hp, by simpa using h4⟩
    -- whoever is ready is one of the first m
    have hlow : ∀ i ∈ Region.ready md ops listed, i < m := by
      intro j hj
      obtain ⟨hju, o, hoj, hall⟩ := mem_ready.1 hj
      rcases Nat.lt_or_ge j m with h | hge
      · exact h
      exfalso
      have hjs : j < ops.size := (Array.getElem?_eq_some_iff.1 hoj).1
      rcases Nat.lt_or_ge m j with hgt | hle
      · have h3 := h2 j hjs
        rcases h3 with h3 | h3
        · omega
        · rw [hoj] at h3
          obtain ⟨e, he, hb, hon⟩ := edgeOn_iff h3
          have h4 := hall e he hb
          rw [hon, getD_in (by rw [hI.size]; exact hm) false true, hI.hi m (Nat.le_refl _) hm] at h4
          cases h4
      · obtain rfl : j = m := by omega
        -- the largest that is not listed
        have hdown : ∀ d, ∀ p, j - p ≤ d → p < j → listed.getD p true = true := by
          intro d
          induction d with
          | zero => intro p h3 h4; omega
          | succ d ihd =>
            intro p _ h4
            obtain ⟨o1, ho1, _, hn1, hn2, o2, ho2, hed⟩ := hget p h4
            obtain ⟨e, he, hb, hon⟩ := edgeOn_iff hed
            rcases Nat.lt_or_ge (nxtOf md ops p) j with h5 | h5
            · have h6 := ihd (nxtOf md ops p) (by omega) h5
              have h7 := hI.dc _ h5 h6 o2 ho2 e he hb
              rwa [hon] at h7
            · have h6 : nxtOf md ops p = j := by omega
              rw [h6, hoj] at ho2
              cases ho2
              have h7 := hall e he hb
              rw [hon] at h7
              rwa [getD_in (by rw [hI.size]; omega) true false]
        obtain ⟨p, hp, hpu⟩ := hex
        rw [hdown j p (by omega) hp] at hpu
        cases hpu
    -- the least that is not listed is ready
    have hne : Region.ready md ops listed ≠ [] := by
      obtain ⟨p, hp, hpu⟩ := hex
      have hmin : ∃ p, p < m ∧ listed.getD p true = false ∧ ∀ q, q < p → listed.getD q true = true := by
        clear hlow
        induction p using Nat.strongRecOn with
        | _ p ihp =>
          by_cases h3 : ∀ q, q < p → listed.getD q true = true
          · exact ⟨p, hp, hpu, h3⟩
          · obtain ⟨q, h4⟩ := Classical.not_forall.1 h3
            obtain ⟨h5, h6⟩ := Classical.not_imp.1 h4
            exact ihp q h5 (by omega) (by simpa using h6)
      obtain ⟨p, hp, hpu, hq⟩ := hmin
      obtain ⟨o, ho, hb, _⟩ := hget p hp
      refine List.ne_nil_of_mem (a := p) (mem_ready.2 ⟨hpu, o, ho, fun e he hbe => ?_⟩)
      have h3 := hb e he hbe
      rw [getD_in (by rw [hI.size]; omega) false true]
      exact hq _ h3
    simp only [ahead, Bool.and_eq_true, List.all_eq_true, decide_eq_true_eq]
    refine ⟨by cases hr : Region.ready md ops listed with | nil => exact absurd hr hne | cons a t => rfl, fun i hi => ⟨hlow i hi, ih _ ?_⟩⟩
    have him := hlow i hi
    obtain ⟨hiu, o, hoi, hall⟩ := mem_ready.1 hi
    have his : i < listed.size := by rw [hI.size]; omega
    have hself : ∀ x, (listed.setIfInBounds i true).getD i x = true := fun x => by simp [Array.getD, his]
    refine ⟨by simp [hI.size], fun j hj hjs => by rw [getD_set_ne true (by omega)]; exact hI.hi j hj hjs, ?_, ?_⟩
    · intro j hj hjl o2 ho2 e he hb
      by_cases hji : j = i
      · subst hji
        rw [hoi] at ho2
        cases ho2
        by_cases h3 : e.on = j
        · rw [h3]; exact hself true
        · have h4 := hall e he hb
          rw [getD_set_ne true (Ne.symm h3)]
          by_cases h5 : e.on < listed.size
          · rwa [getD_in h5 true false]
          · rw [getD_out h5]
      · rw [getD_set_ne true (Ne.symm hji)] at hjl
        have h4 := hI.dc j hj hjl o2 ho2 e he hb
        by_cases h3 : e.on = i
        · rw [h3]; exact hself true
        · rw [getD_set_ne true (Ne.symm h3)]; exact h4
    · have h3 := count_flip (p := fun j => !listed.getD j true) (q := fun j => !(listed.setIfInBounds i true).getD j true) (i := i) (by rw [hiu]; rfl) (by rw [hself]; rfl) (fun j hj => by rw [getD_set_ne true (Ne.symm hj)]) m
      rw [hI.cnt, if_pos him] at h3
      omega

theorem ahead_start (hok : aheadOk md ops m = true) {n : Nat} (hn : n = ops.size) : ahead md ops m m (Array.replicate n false) = true := by
  subst hn
  refine ahead_of_ok hok m _ ⟨by simp, fun j _ hj => by simp [Array.getD, hj], fun i hi h => ?_, ?_⟩
  · have hm : m < ops.size := by
      unfold aheadOk at hok
      simp only [Bool.and_eq_true, decide_eq_true_eq] at hok
      exact hok.1
    rw [show (Array.replicate ops.size false).getD i true = false by simp [Array.getD]; omega] at h
    cases h
  · have hm : m < ops.size := by
      unfold aheadOk at hok
      simp only [Bool.and_eq_true, decide_eq_true_eq] at hok
      exact hok.1
    have : (List.range m).countP (fun i => !(Array.replicate ops.size false).getD i true) = (List.range m).length := by
      rw [List.countP_eq_length]
      intro i hi
      have := List.mem_range.1 hi
      rw [show (Array.replicate ops.size false).getD i true = false by simp [Array.getD]; omega]; rfl
    rw [this, List.length_range]
end
section
variable {P : Program}
theorem wp_tail_quick {id : Nat} {Q : Exit → Act → World → Prop} {a : Act} {w : World} {l : List Oper} (m f : Nat) (hl : l.length = m + f) (hm : P.follows .mixedOrders = true) (hs : Region.noSelect l.toArray = true)
    (hB : lexPre .any l.toArray m 0 (Array.replicate (m + f) false) = true) (hA : aheadOk .any l.toArray m = true)
    (h : wpQuiet P l.toArray (fun w' => ∃ p : LaterOf w, w' = p.world) (fun a' => ∀ w', (∃ p : LaterOf w, w' = p.world) → wpAny P .any l.toArray Q f (listedTo m 0 (Array.replicate (m + f) false)) a' w') (l.take m) a) : (Code.region id l.toArray true).wp P Q a w :=
  wp_tail_later m f hl hm hs hB (ahead_start hA (by rw [List.size_toArray, hl])) h
end
end Go.Proofs.YtffdcnhpjgpcdaaGreatDoor
