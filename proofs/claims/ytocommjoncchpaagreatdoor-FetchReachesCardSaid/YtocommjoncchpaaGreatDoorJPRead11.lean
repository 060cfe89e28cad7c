/- The program's node of bytes. Rows of the call's own, kept and looked at; blocks behind an alloc. Regions that draw their order: the first m operations, quiet in a class of worlds, are walked once; then those that wait for all of them. No program in sight. -/
import Derived.Test.YtocommjoncchpaaGreatDoorPNode11
import Derived.Test.YtocommjoncchpaaGreatDoorAs11
import Derived.Test.YtocommjoncchpaaGreatDoorJRowG
namespace Go.Proofs.YtocommjoncchpaaGreatDoor
open Go.RowKit

/-- What the library's variable of the type error holds. -/
def ErrT (w : World) : Prop := w.cell? ⟨0, 0, none⟩ = some (.iface 142 (.agg #[.pointer (some ⟨2, 47, none⟩)]))
theorem ErrT.below {w w' : World} (h : ErrT w) (hb : Below w.heap.size w w') : ErrT w' := cell_below hb h
theorem as_walk (e b : Nat) (old : Value) (w : World) (hg : ErrT w) (hb : w.heap[b]? = some (.cells #[old] 108 (0, 0))) :
    Calls Tryz.prog 57 #[.iface 108 (.pointer (some ⟨e, 0, none⟩)), .iface 110 (.pointer (some ⟨b, 0, none⟩))] w fun ev w' => ev = .returned (.bool true) ∧ Gro b w w' := by
  refine (as_hit ⟨e, 0, none⟩ ⟨b, 0, none⟩ old w hg (heap_cell hb (j := 0) rfl) (heap_free hb 0)).mono ?_
  rintro ev w' ⟨h1, rfl⟩
  have hB : ∀ (W : World) (o : Obj), Gro b w W → Gro b w (W.alloc o) := fun W o h => gro_chain h ((Below.refl _ _).alloc (Nat.le_refl _) o)
  exact ⟨h1, gro_set (hB _ _ (hB _ _ (hB _ _ (hB _ _ (World.grownBy.refl _ _))))) 0 _⟩

/-- What Read leaves. -/
def ReadPost (s : List UInt8) (w : World) (e : Ending) (w' : World) : Prop :=
  ∃ (vp ve : Value), e = .returned (.tuple #[NodV (readN s).1 vp ve, .int .i64 (readN s).2]) ∧ NodRow w' (readN s).1 vp ve ∧ Below w.heap.size w w'

/-- The same, and where the rows lie. -/
def ReadPost2 (s : List UInt8) (w : World) (e : Ending) (w' : World) : Prop :=
  ∃ (vp ve : Value), e = .returned (.tuple #[NodV (readN s).1 vp ve, .int .i64 (readN s).2]) ∧ NodRow w' (readN s).1 vp ve ∧ ((∀ j, vp.ownBlock = some j → w.heap.size ≤ j) ∧ (∀ j, ve.ownBlock = some j → w.heap.size ≤ j)) ∧ Below w.heap.size w w'

set_option maxHeartbeats 4000000 in
set_option maxRecDepth 100000 in
theorem pread2_walk (s : List UInt8) (w : World) (hT : ErrT w) (hs : s.length ≤ 1000000) :
    Calls Tryz.prog 37 #[S s] w (ReadPost2 s w) := by
  have HT := Lib.hid hT
  clear hT
  obtain ⟨w1, hw1, hb1, hz1⟩ : ∃ w1, w1 = w.alloc (.cells #[.int .i64 0, .string ⟨#[]⟩, .slice none 0 0, .slice none 0 0] 68) ∧ Below w.heap.size w w1 ∧ w1.heap[w.heap.size]? = some (.cells #[.int .i64 0, .string ⟨#[]⟩, .slice none 0 0, .slice none 0 0] 68 (0, 0)) :=
    ⟨_, rfl, (Below.refl _ _).alloc (Nat.le_refl _) _, heap_alloc_new _ _⟩
  obtain ⟨w2, hw2, hb2, hz2, hg2, hsz⟩ : ∃ w2, w2 = w1.alloc (.cells #[S s, .nilIface] 106) ∧ Below w1.heap.size w1 w2 ∧ w2.heap[w.heap.size]? = some (.cells #[.int .i64 0, .string ⟨#[]⟩, .slice none 0 0, .slice none 0 0] 68 (0, 0)) ∧ RdAt w2 w1.heap.size s true ∧ w.heap.size < w1.heap.size :=
    ⟨_, rfl, (Below.refl _ _).alloc (Nat.le_refl _) _, (((Below.refl _ _).alloc (Nat.le_refl _) _).block _ (heap_lt hz1)).trans hz1, ⟨.nilIface, heap_alloc_new _ _, .inl ⟨rfl, rfl⟩⟩, heap_lt hz1⟩
  have hB2 := below_chain hb1 hb2 hb1.size
  have CN := node_walk w1.heap.size s w2 hg2 hs
  have hgs : w1.heap.size < w2.heap.size := by obtain ⟨_, h1, _⟩ := hg2; exact heap_lt h1
  clear hb1 hb2 hg2
  go_enter Tryz.func37, Tryz.ntmps37
  go_upto_region 1 with fail
  rw [← hw1]
  clear hw1
  go_wp2_with fail
  rw [← hw2]
  refine CN.mono ?_
  rintro e w3 ⟨n, vp, ve, ev, ok, rfl, hev, hrow, hvb, hg3, hyes, hno⟩
  have hz3 := (hg3.block _ (heap_lt hz2) (by simp; omega)).trans hz2
  have hB3 : Below w.heap.size w w3 := hB2.trans (gro_below hg3 (by omega) (by omega))
  obtain ⟨va, vc, rfl⟩ := row_slice hrow.parts
  obtain ⟨ua, uc, rfl⟩ := row_slice hrow.ents
  obtain ⟨w4, hw4, hn4, hz4, hB4, hb34⟩ : ∃ w4, w4 = w3.alloc (.cells #[.int .i64 n.kind, S n.data, .slice va n.parts.length vc, .slice ua n.ents.length uc] 68) ∧ w4.heap[w3.heap.size]? = some (.cells #[.int .i64 n.kind, S n.data, .slice va n.parts.length vc, .slice ua n.ents.length uc] 68 (0, 0)) ∧ w4.heap[w.heap.size]? = some (.cells #[.int .i64 0, .string ⟨#[]⟩, .slice none 0 0, .slice none 0 0] 68 (0, 0)) ∧ Below w.heap.size w w4 ∧ Below w3.heap.size w3 w4 :=
    ⟨_, rfl, heap_alloc_new _ _, (((Below.refl _ _).alloc (Nat.le_refl _) _).block _ (heap_lt hz3)).trans hz3, hB3.alloc hB3.size _, (Below.refl _ _).alloc (Nat.le_refl _) _⟩
  obtain ⟨w5, hw5, hn5, hz5, ht5, hB5, hb45, hs45⟩ : ∃ w5, w5 = w4.alloc (.cells #[.pointer none] 108) ∧ w5.heap[w3.heap.size]? = some (.cells #[.int .i64 n.kind, S n.data, .slice va n.parts.length vc, .slice ua n.ents.length uc] 68 (0, 0)) ∧ w5.heap[w.heap.size]? = some (.cells #[.int .i64 0, .string ⟨#[]⟩, .slice none 0 0, .slice none 0 0] 68 (0, 0)) ∧ w5.heap[w4.heap.size]? = some (.cells #[.pointer none] 108 (0, 0)) ∧ Below w.heap.size w w5 ∧ Below w4.heap.size w4 w5 ∧ w.heap.size < w4.heap.size :=
    ⟨_, rfl, (((Below.refl _ _).alloc (Nat.le_refl _) _).block _ (heap_lt hn4)).trans hn4, (((Below.refl _ _).alloc (Nat.le_refl _) _).block _ (heap_lt hz4)).trans hz4, heap_alloc_new _ _, hB4.alloc hB4.size _, (Below.refl _ _).alloc (Nat.le_refl _) _, heap_lt hz4⟩
  have hrow5 := (hrow.below hb34).below hb45
  have hT5 := HT.out.below hB5
  have hvz : ∀ j, (Value.slice va n.parts.length vc).ownBlock = some j → w.heap.size ≠ j := fun j hj => by have := hvb.1 j hj; omega
  have hvz2 : ∀ j, (Value.slice ua n.ents.length uc).ownBlock = some j → w.heap.size ≠ j := fun j hj => by have := hvb.2 j hj; omega
  have HVB := Lib.hid (show (∀ j, (Value.slice va n.parts.length vc).ownBlock = some j → w.heap.size ≤ j) ∧ (∀ j, (Value.slice ua n.ents.length uc).ownBlock = some j → w.heap.size ≤ j) from ⟨fun j hj => by have := hvb.1 j hj; omega, fun j hj => by have := hvb.2 j hj; omega⟩)
  clear hvb
  clear CN hg3 hz3 hB3 hz2 hB2 hz1 hz4 hB4 hn4 hrow hb34 hb45
  go_upto_region 2 with fail
  rw [← hw4]
  clear hw4
  go_upto_region 3 with fail
  rw [← hw5]
  clear hw5
  rcases hev with ⟨rfl, rfl⟩ | ⟨rfl, b, rfl⟩
  · have hres := hyes rfl
    obtain ⟨⟨n0, n1, n2, n3⟩, -, -⟩ := box4 hn5
    obtain ⟨⟨c0, c1, c2, c3⟩, ⟨f0, f1, f2, f3⟩, ⟨q0, q1, q2, q3⟩⟩ := box4 hz5
    obtain ⟨w9, hw9, hz9, hB9, hrow9⟩ : ∃ w9, w9 = (((w5.setCell ⟨w.heap.size, 0, none⟩ (.int .i64 n.kind)).setCell ⟨w.heap.size, 1, none⟩ (S n.data)).setCell ⟨w.heap.size, 2, none⟩ (.slice va n.parts.length vc)).setCell ⟨w.heap.size, 3, none⟩ (.slice ua n.ents.length uc) ∧ w9.heap[w.heap.size]? = some (.cells #[.int .i64 n.kind, S n.data, .slice va n.parts.length vc, .slice ua n.ents.length uc] 68 (0, 0)) ∧ Below w.heap.size w w9 ∧ Hid (NodRow w9 n (.slice va n.parts.length vc) (.slice ua n.ents.length uc)) := by
      exact ⟨_, rfl, heap_set_cell (heap_set_cell (heap_set_cell (heap_set_cell hz5 _) _) _) _, below_setT (below_setT (below_setT (below_setT hB5 (Nat.le_refl _) _ _) (Nat.le_refl _) _ _) (Nat.le_refl _) _ _) (Nat.le_refl _) _ _,
        Lib.hid (nod_other (nod_other (nod_other (nod_other hrow5 hvz hvz2 _ _) hvz hvz2 _ _) hvz hvz2 _ _) hvz hvz2 _ _)⟩
    have HRES := Lib.hid hres
    have HB9 := Lib.hid hB9
    clear hn5 hz5 hres hB9 hB5 ht5 hyes hno
    go_wp2_with (go_at_call 57; refine (as_nil _ _).mono ?_; rintro e w6 ⟨rfl, rfl⟩)
    rw [← hw9]
    obtain ⟨⟨x0, x1, x2, x3⟩, -, -⟩ := box4 hz9
    refine bodyPost_ret (v := .tuple #[NodV n (.slice va n.parts.length vc) (.slice ua n.ents.length uc), .int .i64 0]) (by simp [results, Tryz.results37, go_sem, x0, x1, x2, x3]) rfl ?_
    exact ⟨_, _, by rw [HRES.out], by rw [HRES.out]; exact hrow9.out, HVB.out, HB9.out⟩
  · have hres := hno rfl
    have CA := as_walk b w4.heap.size (.pointer none) w5 hT5 ht5
    have HRES := Lib.hid hres
    clear hn5 hres hyes hno hT5 ht5
    go_wp2_with fail
    refine CA.mono ?_
    rintro e w6 ⟨rfl, hg6⟩
    have hz6 := (hg6.block _ (heap_lt hz5) (by simp; omega)).trans hz5
    have hB6 : Below w.heap.size w w6 := hB5.trans (gro_below hg6 (by omega) hB5.size)
    obtain ⟨⟨c0, c1, c2, c3⟩, ⟨f0, f1, f2, f3⟩, ⟨q0, q1, q2, q3⟩⟩ := box4 hz6
    obtain ⟨w9, hw9, hz9, hB9⟩ : ∃ w9, w9 = (((w6.setCell ⟨w.heap.size, 0, none⟩ (.int .i64 0)).setCell ⟨w.heap.size, 1, none⟩ (.string ⟨#[]⟩)).setCell ⟨w.heap.size, 2, none⟩ (.slice none 0 0)).setCell ⟨w.heap.size, 3, none⟩ (.slice none 0 0) ∧ w9.heap[w.heap.size]? = some (.cells #[.int .i64 0, .string ⟨#[]⟩, .slice none 0 0, .slice none 0 0] 68 (0, 0)) ∧ Below w.heap.size w w9 :=
      ⟨_, rfl, heap_set_cell (heap_set_cell (heap_set_cell (heap_set_cell hz6 _) _) _) _, below_setT (below_setT (below_setT (below_setT hB6 (Nat.le_refl _) _ _) (Nat.le_refl _) _ _) (Nat.le_refl _) _ _) (Nat.le_refl _) _ _⟩
    have HB9 := Lib.hid hB9
    clear CA hg6 hz5 hz6 hB9 hB6 hB5
    go_wp2
    rw [← hw9]
    obtain ⟨⟨x0, x1, x2, x3⟩, -, -⟩ := box4 hz9
    refine bodyPost_ret (v := .tuple #[NodV zNod (.slice none 0 0) (.slice none 0 0), .int .i64 2]) (by simp [results, Tryz.results37, go_sem, x0, x1, x2, x3, zNod]) rfl ?_
    exact ⟨_, _, by rw [HRES.out], by rw [HRES.out]; exact ⟨Row.nil _ _, Row.nil _ _⟩, ⟨(fun j hj => by simp [Value.ownBlock] at hj), (fun j hj => by simp [Value.ownBlock] at hj)⟩, HB9.out⟩
theorem pread11_walk (s : List UInt8) (w : World) (hT : ErrT w) (hs : s.length ≤ 1000000) :
    Calls Tryz.prog 37 #[S s] w (ReadPost s w) := by
  refine (pread2_walk s w hT hs).mono ?_
  rintro e w' ⟨vp, ve, rfl, h, -, hb⟩
  exact ⟨vp, ve, rfl, h, hb⟩
end Go.Proofs.YtocommjoncchpaaGreatDoor

namespace Go.Proofs.YtocommjoncchpaaGreatDoor
open Go.RowKit

theorem own_keep {w w' : World} {B e K n : Nat} {v : Value} {xs : List Value} (h : w.ownsRow B e K v n xs) (hk : ∀ g, B ≤ g → g < w.heap.size → w'.heap[g]? = w.heap[g]?) : w'.ownsRow B e K v n xs := by
  have hlt := h.lt
  obtain ⟨h1, h2⟩ := h
  refine ⟨h1, ?_⟩
  rcases h2 with h2 | ⟨g, cap, cur, rfl, hb, hg, h3⟩
  · exact .inl h2
  · exact .inr ⟨g, cap, cur, rfl, hb, (hk g hb (hlt g rfl).2).trans hg, h3⟩
theorem own_slice {w : World} {B e K n : Nat} {v : Value} {xs : List Value} (h : w.ownsRow B e K v n xs) : ∃ a m c, v = .slice a m c := by
  rcases h.2 with ⟨rfl, _⟩ | ⟨g, cap, cur, rfl, _⟩
  · exact ⟨_, _, _, rfl⟩
  · exact ⟨_, _, _, rfl⟩
theorem own_set {w : World} {B e K n b o : Nat} {v u : Value} {xs : List Value} (h : w.ownsRow B e K v n xs) (hb : b < B) : (w.setCell ⟨b, o, none⟩ u).ownsRow B e K v n xs :=
  own_keep h (fun g h1 _ => Below.heap_setCell _ _ _ _ (by show g ≠ b; omega))
theorem below_setC {B : Nat} {w w' : World} (h : Below B w w') {g : Nat} (hg : B ≤ g) (o : Nat) (u : Value) : Below B w (w'.setCell ⟨g, o, none⟩ u) := h.setCell (p := ⟨g, o, none⟩) hg u
theorem heap_old {w : World} {o x : Obj} {k : Nat} (h : w.heap[k]? = some x) : (w.alloc o).heap[k]? = some x := (Below.heap_alloc w o k (heap_lt h)).trans h
theorem heap_new' {w : World} {k : Nat} (h : k = w.heap.size) (o : Obj) : (w.alloc o).heap[k]? = some o := by subst h; exact heap_alloc_new w o
end Go.Proofs.YtocommjoncchpaaGreatDoor

namespace Go.Proofs.YtocommjoncchpaaGreatDoor
open Go Go.RowKit

section
variable {P : Program} {ops : Array Oper} {md : Region.Mode} {C : World → Prop}

/-- Whatever order is picked, the first m come ahead of all others. -/
def ahead (md : Region.Mode) (ops : Array Oper) (m : Nat) : Nat → Array Bool → Bool
  | 0, listed => (List.range m).all fun i => listed.getD i true
  | k + 1, listed => !(Region.ready md ops listed).isEmpty && (Region.ready md ops listed).all fun i => decide (i < m) && ahead md ops m k (listed.setIfInBounds i true)
def lexPre (md : Region.Mode) (ops : Array Oper) : Nat → Nat → Array Bool → Bool
  | 0, _, _ => true
  | n + 1, k, listed => (Region.ready md ops listed).contains k && Region.free md ops listed k && lexPre md ops n (k + 1) (listed.setIfInBounds k true)
def listedTo : Nat → Nat → Array Bool → Array Bool
  | 0, _, listed => listed
  | n + 1, k, listed => listedTo n (k + 1) (listed.setIfInBounds k true)

/-- Whatever order is picked of the first ones; then T. -/
def wpPre (P : Program) (md : Region.Mode) (ops : Array Oper) (C : World → Prop) (T : Array Bool → Act → Prop) : Nat → Array Bool → Act → Prop
  | 0, listed, a => T listed a
  | k + 1, listed, a => Region.ready md ops listed ≠ [] ∧ ∀ i ∈ Region.ready md ops listed, qOp P ops C i (wpPre P md ops C T k (listed.setIfInBounds i true)) a

theorem wpAny_of_pre {Q' : Exit → Act → World → Prop} {f : Nat} : ∀ (k : Nat) (listed : Array Bool) (a : Act) (w : World), C w →
    wpPre P md ops C (fun listed a => ∀ w, C w → wpAny P md ops Q' f listed a w) k listed a → wpAny P md ops Q' (k + f) listed a w
  | 0, _, _, w, hw, h => by rw [Nat.zero_add]; exact h w hw
  | k + 1, _, _, w, hw, h => by
    rw [Nat.succ_add]
    exact ⟨fun h0 => absurd h0 h.1, fun i hi => wpOp_of_qOp hw (fun a' w' hw' => wpAny_of_pre k _ a' w' hw') (h.2 i hi)⟩

theorem ahead_at {m k : Nat} {listed : Array Bool} (h : ahead md ops m (k + 1) listed = true) {i : Nat} (hi : i ∈ Region.ready md ops listed) : i < m ∧ ahead md ops m k (listed.setIfInBounds i true) = true := by
  simp only [ahead, Bool.and_eq_true, List.all_eq_true, decide_eq_true_eq] at h
  exact h.2 i hi

theorem wpPre_first {T : Array Bool → Act → Prop} {m i : Nat} {oi : Oper} {v : Value} (hi : ops[i]? = some oi) (hsel : ∀ (j : Nat) (o : Oper) cs b, ops[j]? = some o → o.op ≠ .select cs b) :
    ∀ (k : Nat) (listed : Array Bool) (a : Act), ahead md ops m (k + 1) listed = true →
      (∀ j oj, ops[j]? = some oj → j ≠ i → listed.getD j true = false → (∀ e ∈ oj.after, Region.binds md e = true → e.on ≠ i) → oi.apart ops oj = true) →
      i ∈ Region.ready md ops listed → YieldsIn P ops C oi v a →
      wpPre P md ops C T k (listed.setIfInBounds i true) (a.put oi.dst v) → wpPre P md ops C T (k + 1) listed a := by
  intro k
  induction k with
  | zero =>
    intro listed a hA _ hr hy H
    refine ⟨List.ne_nil_of_mem hr, fun j hj => ?_⟩
    by_cases hji : j = i
    · subst hji; exact hy.qOp hi H
    · exfalso
      have h1 := (ahead_at hA hr).2
      have h2 := (ahead_at hA hj).1
      simp only [ahead, List.all_eq_true, List.mem_range] at h1
      have h3 := h1 j h2
      rw [getD_set_ne true (Ne.symm hji), (mem_ready.1 hj).1] at h3
      cases h3
  | succ k ih =>
    intro listed a hA hfree hr hy H
    refine ⟨List.ne_nil_of_mem hr, fun j hj => ?_⟩
    by_cases hji : j = i
    · subst hji; exact hy.qOp hi H
    · have h1 := H.2 j (ready_mono hj hji)
      obtain ⟨hjun, oj, hoj, hall⟩ := mem_ready.1 hj
      have hnot : ∀ e ∈ oj.after, Region.binds md e = true → e.on ≠ i := fun e he hb heq => by
        have h1 := hall e he hb
        have h0 := (mem_ready.1 hr).1
        rw [heq] at h1
        rcases Nat.lt_or_ge i listed.size with h' | h'
        · simp [h'] at h0 h1; rw [h0] at h1; cases h1
        · simp [Array.getElem?_eq_none h'] at h1
      have h2 := qOp_put hoj (hfree j oj hoj hji hjun hnot) (fun cs b => hsel i oi cs b hi) (fun cs b => hsel j oj cs b hoj) hy h1
      have hfree' : ∀ k ok, ops[k]? = some ok → k ≠ i → (listed.setIfInBounds j true).getD k true = false →
          (∀ e ∈ ok.after, Region.binds md e = true → e.on ≠ i) → oi.apart ops ok = true := fun k ok hk hki hun hno => by
        refine hfree k ok hk hki ?_ hno
        by_cases hjk : j = k
        · subst hjk; exact hjun
        · rw [getD_set_ne true hjk] at hun; exact hun
      refine qOp_mono (fun a' h3 => ih (listed.setIfInBounds j true) a' (ahead_at hA hj).2 hfree' (ready_mono hr (Ne.symm hji)) h3.1 ?_) h2
      rw [Array.setIfInBounds_comm _ _ hji]
      exact h3.2

theorem wpPre_lex {Q : Act → Prop} {m : Nat} {L : Array Bool} (hs : Region.noSelect ops = true) : ∀ (l : List Oper) (k : Nat) (listed : Array Bool) (a : Act), (∀ j, j < l.length → l[j]? = ops[k + j]?) →
    lexPre md ops l.length k listed = true → ahead md ops m l.length listed = true → listedTo l.length k listed = L → wpQuiet P ops C Q l a → wpPre P md ops C (fun listed a => listed = L ∧ Q a) l.length listed a
  | [], _, _, _, _, _, _, hL, h => ⟨hL, h⟩
  | o :: l, k, listed, a, hl, hB, hA, hL, h => by
    have h0 : ops[k]? = some o := by simpa using (hl 0 (by simp)).symm
    simp only [List.length_cons, lexPre, Bool.and_eq_true] at hB
    obtain ⟨⟨hr, hf⟩, hB'⟩ := hB
    have hst : qOp P ops C k (wpQuiet P ops C Q l) a := by unfold qOp; simp only [h0]; exact h
    obtain ⟨v, hy, hK⟩ := yieldsIn_of_qOp h0 hst
    have hr' : k ∈ Region.ready md ops listed := by simpa using hr
    exact wpPre_first h0 (Region.noSelect_spec hs) l.length listed a hA (Region.free_spec h0 hf) hr' hy
      (wpPre_lex hs l (k + 1) _ _ (fun j hj => by have := hl (j + 1) (by simpa using hj); simpa [Nat.add_assoc, Nat.add_comm 1 j] using this) hB' (ahead_at hA hr').2 hL hK)

theorem wpPre_mono {T T' : Array Bool → Act → Prop} (h : ∀ l a, T l a → T' l a) : ∀ (k : Nat) (listed : Array Bool) (a : Act), wpPre P md ops C T k listed a → wpPre P md ops C T' k listed a
  | 0, _, _, hh => h _ _ hh
  | k + 1, _, _, hh => ⟨hh.1, fun i hi => qOp_mono (fun a' => wpPre_mono h k _ a') (hh.2 i hi)⟩

/-- The first m operations, walked once in a class of worlds; then the others, that wait for them. -/
theorem wp_region_tail {id : Nat} {Q : Exit → Act → World → Prop} {a : Act} {w : World} {l : List Oper} (m f : Nat) (hl : l.length = m + f) (hm : P.follows .mixedOrders = true) (hs : Region.noSelect l.toArray = true)
    (hB : lexPre .any l.toArray m 0 (Array.replicate (m + f) false) = true) (hA : ahead .any l.toArray m m (Array.replicate (m + f) false) = true) (hC : C { w with drawn := w.drawn + 1 })
    (h : wpQuiet P l.toArray C (fun a' => ∀ w', C w' → wpAny P .any l.toArray Q f (listedTo m 0 (Array.replicate (m + f) false)) a' w') (l.take m) a) : (Code.region id l.toArray true).wp P Q a w := by
  refine wp_region_any hm ?_
  rw [List.size_toArray, hl]
  have hlt : (l.take m).length = m := by rw [List.length_take]; omega
  refine wpAny_of_pre m _ a _ hC ?_
  have := wpPre_lex (C := C) (md := .any) (m := m) (L := listedTo m 0 (Array.replicate (m + f) false)) hs (l.take m) 0 (Array.replicate (m + f) false) a (fun j hj => by
    rw [hlt] at hj
    rw [List.getElem?_take, if_pos hj]; simp) (by rw [hlt]; exact hB) (by rw [hlt]; exact hA) (by rw [hlt]) h
  rw [hlt] at this
  exact wpPre_mono (fun l a ⟨h1, h2⟩ => by subst h1; exact h2) _ _ _ this
theorem wp_tail_later {id : Nat} {Q : Exit → Act → World → Prop} {a : Act} {w : World} {l : List Oper} (m f : Nat) (hl : l.length = m + f) (hm : P.follows .mixedOrders = true) (hs : Region.noSelect l.toArray = true)
    (hB : lexPre .any l.toArray m 0 (Array.replicate (m + f) false) = true) (hA : ahead .any l.toArray m m (Array.replicate (m + f) false) = true)
    (h : wpQuiet P l.toArray (fun w' => ∃ p : LaterOf w, w' = p.world) (fun a' => ∀ w', (∃ p : LaterOf w, w' = p.world) → wpAny P .any l.toArray Q f (listedTo m 0 (Array.replicate (m + f) false)) a' w') (l.take m) a) : (Code.region id l.toArray true).wp P Q a w :=
  wp_region_tail (C := fun w' => ∃ p : LaterOf w, w' = p.world) m f hl hm hs hB hA ⟨⟨{ w with drawn := w.drawn + 1 }, ⟨rfl, rfl, rfl, Nat.le_refl _, fun _ _ => rfl⟩⟩, rfl⟩ h
end
end Go.Proofs.YtocommjoncchpaaGreatDoor
