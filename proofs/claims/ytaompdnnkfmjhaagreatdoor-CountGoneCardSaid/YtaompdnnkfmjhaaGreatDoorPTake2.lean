/- varint.Take. -/
import Derived.Test.YtaompdnnkfmjhaaGreatDoorJAny
import Derived.RegionTactic
import Derived.Sort.CutIn
namespace Go.Proofs.YtaompdnnkfmjhaaGreatDoor
open Go.RowKit
attribute [local go_sem] Oper.semAt_some

/-- Between two rounds of Take. -/
def TakeI (l : List UInt8) (w : World) (pre : List (Nat × Bool)) (W : World) : Prop :=
  (Boxed W w.heap.size 74 (.int .u64 0) ∧ Boxed W (w.heap.size + 1) 3 (.int .i64 0) ∧ Boxed W (w.heap.size + 2) 43 (.int .i64 0) ∧
    ∃ acc : Nat, Boxed W (w.heap.size + 3) 74 (.int .u64 acc) ∧ Boxed W (w.heap.size + 4) 3 (.int .i64 pre.length) ∧ acc < 2 ^ (7 * pre.length) ∧ takeV l = takeGo pre.length acc (l.drop pre.length)) ∧
    (Below w.heap.size w W ∧ w.heap.size + 6 ≤ W.heap.size) ∧ (∀ x ∈ pre, x.2 = false) ∧ pre.length ≤ 9
/-- Where a round has left. -/
def TakeX (l : List UInt8) (w : World) (c : Code) (W : World) : Prop :=
  c = .ret ∧ Boxed W w.heap.size 74 (.int .u64 (takeV l).1) ∧ Boxed W (w.heap.size + 1) 3 (.int .i64 (takeV l).2.1) ∧ Boxed W (w.heap.size + 2) 43 (.int .i64 (takeV l).2.2) ∧ Below w.heap.size w W ∧ w.heap.size + 6 ≤ W.heap.size

theorem takeI_bides (l : List UInt8) (w : World) (N : Nat) (hN : w.heap.size + 6 ≤ N) : Bides (fun _ => False) N (TakeI l w) := by
  rintro s A B row ⟨⟨h1, h2, h3, acc, h4, h5, h6⟩, ⟨h7, h8⟩, h9⟩ hg hr
  exact ⟨⟨boxed_turn h1 hg hr (by simp), boxed_turn h2 hg hr (by simp), boxed_turn h3 hg hr (by simp), acc, boxed_turn h4 hg hr (by simp), boxed_turn h5 hg hr (by simp), h6⟩, ⟨below_turn h7 hg hr (fun r e => e.elim) (by omega) (by omega), Nat.le_trans h8 hg.size⟩, h9⟩
theorem takeX_bides (l : List UInt8) (w : World) (c : Code) (N : Nat) (hN : w.heap.size + 6 ≤ N) : Bides (fun _ => False) N (fun (_ : List (Nat × Bool)) => TakeX l w c) := by
  rintro s A B row ⟨h0, h1, h2, h3, h7, h8⟩ hg hr
  exact ⟨h0, boxed_turn h1 hg hr (by simp), boxed_turn h2 hg hr (by simp), boxed_turn h3 hg hr (by simp), below_turn h7 hg hr (fun r e => e.elim) (by omega) (by omega), Nat.le_trans h8 hg.size⟩

/-- The element that is handed out behind pre. -/
theorem grp_next : ∀ (pre : List (Nat × Bool)) (f : Nat) (l : List UInt8) (x : Nat × Bool), (∀ y ∈ pre, y.2 = false) → pre ++ [x] <+: grpL f l → pre.length < f ∧ ∃ h : pre.length < l.length, x = (l[pre.length].toNat % 128, decide (l[pre.length].toNat < 128))
  | [], f, l, x, _, h => by
    cases f with
    | zero => simp [grpL] at h
    | succ f =>
      cases l with
      | nil => simp [grpL] at h
      | cons c cs =>
        rw [grpL] at h
        refine ⟨by simp, by simp, ?_⟩
        simp only [List.length_nil, List.getElem_cons_zero]
        split at h
        · rename_i hc
          obtain ⟨t, ht⟩ := h
          simp at ht
          rw [ht.1, decide_eq_true hc]
        · rename_i hc
          obtain ⟨t, ht⟩ := h
          simp at ht
          rw [ht.1, decide_eq_false hc]
  | y :: pre, f, l, x, hp, h => by
    cases f with
    | zero => simp [grpL] at h
    | succ f =>
      cases l with
      | nil => simp [grpL] at h
      | cons c cs =>
        rw [grpL] at h
        split at h
        · obtain ⟨t, ht⟩ := h
          simp at ht
        · obtain ⟨t, ht⟩ := h
          simp only [List.cons_append, List.cons.injEq] at ht
          obtain ⟨h1, h2, h3⟩ := grp_next pre f cs x (fun z hz => hp z (List.mem_cons_of_mem _ hz)) ⟨t, ht.2⟩
          exact ⟨by simp; omega, by simpa using h2, by simpa using h3⟩
theorem grp_all : ∀ (f : Nat) (l : List UInt8), (∀ y ∈ grpL f l, y.2 = false) → (grpL f l).length = min f l.length
  | 0, l, _ => by simp [grpL]
  | f + 1, [], _ => by simp [grpL]
  | f + 1, c :: cs, h => by
    rw [grpL] at h ⊢
    split at h
    · have := h _ (List.mem_singleton.2 rfl)
      simp at this
    · rename_i hc
      rw [if_neg hc]
      have := grp_all f cs (fun y hy => h y (List.mem_cons_of_mem _ hy))
      simp only [List.length_cons, this]
      omega

theorem acc_or {i acc d : Nat} (h9 : i ≤ 9) (ha : acc < 2 ^ (7 * i)) (hd : d < 128) (h1 : i = 9 → d ≤ 1) : bits BinOp.or IntKind.u64 (acc : Int) (IntKind.u64.wrap ((d : Int) * 2 ^ (7 * i))) = ((acc + d * 2 ^ (7 * i) : Nat) : Int) := by
  have hb := acc_bound h9 ha hd h1
  have e1 : IntKind.u64.wrap ((d : Int) * 2 ^ (7 * i)) = ((d * 2 ^ (7 * i) : Nat) : Int) := by
    have : (d : Int) * 2 ^ (7 * i) = ((d * 2 ^ (7 * i) : Nat) : Int) := by push_cast; rfl
    rw [this, IntKind.wrap_u64]
    omega
  rw [e1]
  have e2 : d * 2 ^ (7 * i) ||| acc = d * 2 ^ (7 * i) + acc := by
    have := Nat.shiftLeft_add_eq_or_of_lt ha d
    rw [Nat.shiftLeft_eq] at this
    exact this.symm
  generalize d * 2 ^ (7 * i) = m at *
  show IntKind.u64.wrap (((BitVec.ofInt 64 (acc : Int) ||| BitVec.ofInt 64 (m : Int)).toNat : Nat) : Int) = _
  rw [BitVec.ofInt_natCast, BitVec.ofInt_natCast, BitVec.toNat_or, BitVec.toNat_ofNat, BitVec.toNat_ofNat, Nat.mod_eq_of_lt (by omega), Nat.mod_eq_of_lt hb.2.1, Nat.or_comm, e2, IntKind.wrap_u64]
  omega

theorem boxed_other {W : World} {k j : Nat} {t : TypeId} {v u : Value} (h : Boxed W k t v) (hne : k ≠ j) : Boxed (W.setCell ⟨j, 0, none⟩ u) k t v := (Below.heap_setCell _ _ _ _ hne).trans h
theorem takeX_mk {l : List UInt8} {w W : World} {a b : Nat} {e : Int} {x0 x1 x2 va vb ve : Value} (hT : takeV l = (a, b, e)) (h0 : Boxed W w.heap.size 74 x0) (h1 : Boxed W (w.heap.size + 1) 3 x1) (h2 : Boxed W (w.heap.size + 2) 43 x2)
    (h5 : Below w.heap.size w W) (h6 : w.heap.size + 6 ≤ W.heap.size) (ea : va = .int .u64 (a : Nat)) (eb : vb = .int .i64 (b : Nat)) (ee : ve = .int .i64 e) :
    TakeX l w .ret (((W.setCell ⟨w.heap.size, 0, none⟩ va).setCell ⟨w.heap.size + 1, 0, none⟩ vb).setCell ⟨w.heap.size + 2, 0, none⟩ ve) := by
  subst ea; subst eb; subst ee
  refine ⟨rfl, ?_, ?_, ?_, ((h5.setCell (p := ⟨w.heap.size, 0, none⟩) (Nat.le_refl _) _).setCell (p := ⟨w.heap.size + 1, 0, none⟩) (by simp) _).setCell (p := ⟨w.heap.size + 2, 0, none⟩) (by simp) _, by simp only [size_setCell]; exact h6⟩
  · rw [hT]; exact boxed_other (boxed_other (h0.set _) (by omega)) (by omega)
  · rw [hT]; exact boxed_other ((boxed_other h1 (by omega)).set _) (by omega)
  · rw [hT]; exact (boxed_other (boxed_other h2 (by omega)) (by omega)).set _

theorem heapsz {N : Nat} {W W' : World} (h : KeepsFrom N W W') : W.heap.size ≤ W'.heap.size := h.size
theorem takeX_drew {l : List UInt8} {w W : World} {c : Code} (h : TakeX l w c W) : TakeX l w c W.drew := ⟨h.1, h.2.1, h.2.2.1, h.2.2.2.1, h.2.2.2.2.1.drew, h.2.2.2.2.2⟩

set_option maxHeartbeats 4000000 in
set_option maxRecDepth 100000 in
theorem ptake_walk (l : List UInt8) (w : World) (hl : l.length ≤ 1100000) :
    Calls Tryz.prog 147 #[S l] w fun e w' => e = .returned (.tuple #[.int .u64 ((takeV l).1 : Nat), .int .i64 ((takeV l).2.1 : Nat), .int .i64 (takeV l).2.2]) ∧ Below w.heap.size w w' := by
  refine (callsIn_wide (n := 3)).1 ?_
  refine callsIn_of_wp_marks Tryz.func147 rfl trivial ?_ rfl
  simp only [Tryz.ntmps147, List.size_toArray, List.length_cons, List.length_nil, Nat.reduceAdd, Nat.reduceSub, Array.replicate_succ, Array.replicate_zero, List.push_toArray, List.append_toArray, List.nil_append, List.cons_append]
  gi_wp2_with (refine ⟨trivial, ?_⟩; gi_at_call 157; refine (callsIn_wide.2 (groups_walk l _)).mono ?_; rintro e w' ⟨rfl, rfl⟩)
  have b0 := Boxed.new w 74 (.int .u64 0)
  have b1 := Boxed.new (w.alloc (.cells #[.int .u64 0] 74)) 3 (.int .i64 0)
  have b2 := Boxed.new ((w.alloc (.cells #[.int .u64 0] 74)).alloc (.cells #[.int .i64 0] 3)) 43 (.int .i64 0)
  have b3 := Boxed.new (((w.alloc (.cells #[.int .u64 0] 74)).alloc (.cells #[.int .i64 0] 3)).alloc (.cells #[.int .i64 0] 43)) 74 (.int .u64 0)
  have b4 := Boxed.new ((((w.alloc (.cells #[.int .u64 0] 74)).alloc (.cells #[.int .i64 0] 3)).alloc (.cells #[.int .i64 0] 43)).alloc (.cells #[.int .u64 0] 74)) 3 (.int .i64 0)
  have b5 := Boxed.new (((((w.alloc (.cells #[.int .u64 0] 74)).alloc (.cells #[.int .i64 0] 3)).alloc (.cells #[.int .i64 0] 43)).alloc (.cells #[.int .u64 0] 74)).alloc (.cells #[.int .i64 0] 3)) 9 (S l)
  replace b0 := ((((b0.alloc (.cells #[.int .i64 0] 3)).alloc (.cells #[.int .i64 0] 43)).alloc (.cells #[.int .u64 0] 74)).alloc (.cells #[.int .i64 0] 3)).alloc (.cells #[S l] 9)
  replace b1 := (((b1.alloc (.cells #[.int .i64 0] 43)).alloc (.cells #[.int .u64 0] 74)).alloc (.cells #[.int .i64 0] 3)).alloc (.cells #[S l] 9)
  replace b2 := ((b2.alloc (.cells #[.int .u64 0] 74)).alloc (.cells #[.int .i64 0] 3)).alloc (.cells #[S l] 9)
  replace b3 := (b3.alloc (.cells #[.int .i64 0] 3)).alloc (.cells #[S l] 9)
  replace b4 := b4.alloc (.cells #[S l] 9)
  have hB0 : Below w.heap.size w ((((((w.alloc (.cells #[.int .u64 0] 74)).alloc (.cells #[.int .i64 0] 3)).alloc (.cells #[.int .i64 0] 43)).alloc (.cells #[.int .u64 0] 74)).alloc (.cells #[.int .i64 0] 3)).alloc (.cells #[S l] 9)) := ((((((Below.refl _ _).alloc (Nat.le_refl _) _).alloc (by simp) _).alloc (by simp; omega) _).alloc (by simp; omega) _).alloc (by simp; omega) _).alloc (by simp; omega) _
  have hS0 : ((((((w.alloc (.cells #[.int .u64 0] 74)).alloc (.cells #[.int .i64 0] 3)).alloc (.cells #[.int .i64 0] 43)).alloc (.cells #[.int .u64 0] 74)).alloc (.cells #[.int .i64 0] 3)).alloc (.cells #[S l] 9)).heap.size = w.heap.size + 6 := by simp
  simp only [World.size_alloc] at b1 b2 b3 b4 b5
  generalize ((((((w.alloc (.cells #[.int .u64 0] 74)).alloc (.cells #[.int .i64 0] 3)).alloc (.cells #[.int .i64 0] 43)).alloc (.cells #[.int .u64 0] 74)).alloc (.cells #[.int .i64 0] 3)).alloc (.cells #[S l] 9)) = w0 at *
  refine range_law (gf := 159) (lb := #[.pointer (some ⟨w.heap.size + 5, 0, none⟩)]) rfl (enters_of Tryz.func159 (by kernel_rfl) rfl)
    (groups_iter (w.heap.size + 5) l w0 b5 hl) (fun r e => e.elim) (fun h k => KpG.trans h k) (fun W l o h => KpG.put W l o (by omega)) (fun o o' => KpG.allocs w0 o o' (by omega)) (fun x => rfl)
    (TakeI l w) (fun c _ => TakeX l w c) (takeI_bides l w _ (by omega)) (fun c => takeX_bides l w c _ (by omega)) ⟨⟨b0, b1, b2, 0, b3, b4, by simp, rfl⟩, ⟨hB0, by omega⟩, fun x hx => (by cases hx), by simp⟩
    (fun x a' _ => a' = { tmps := #[S l, undef, .pointer (some ⟨w.heap.size, 0, none⟩), .pointer (some ⟨w.heap.size + 1, 0, none⟩), .pointer (some ⟨w.heap.size + 2, 0, none⟩), .pointer (some ⟨w.heap.size + 3, 0, none⟩), .pointer (some ⟨w.heap.size + 4, 0, none⟩), .int .u64 x.1, .bool x.2, S l, .func (.func 159) #[] #[.pointer (some ⟨w.heap.size + 5, 0, none⟩)], .int .u64 x.1, .bool x.2, undef, undef, undef, undef, undef, undef, undef, undef, undef, undef, undef, undef, undef, undef, undef, undef, undef, undef, undef, undef, undef, undef, undef, undef, undef, undef, undef, undef], defers := [] })
    (fun x a' _ _ _ _ hs _ _ => hs) ?assign ?body ?done ?stop
  case assign =>
    intro ly pre x W K hI hK
    simp only [encG]
    gi_wp2
    exact hK _ _ (KeepsFrom.refl _ _) (KpG.refl _ _) hI rfl
  case body =>
    rintro ly pre x a' W hly _ ⟨⟨h0, h1, h2, acc, h3, h4, ha, ht⟩, ⟨h5, h6⟩, h7, h8⟩ rfl hpx
    obtain ⟨hlt10, hlt, rfl⟩ := grp_next pre 10 l x h7 hpx
    have HT := Lib.hid (ht.trans (takeGo_at hlt))
    have HP := Lib.hid h7
    obtain ⟨i, hi⟩ : ∃ i, i = pre.length := ⟨_, rfl⟩
    have HI := Lib.hid hi
    have hc8 := UInt8.toNat_lt l[pre.length]
    generalize l[pre.length].toNat = c at *
    rw [← hi] at h4 ha h8 HT
    clear hi ht h7 hlt10 hlt hpx
    have c0 := h0.cell
    have f0 := h0.frozen
    have c1 := h1.cell
    have f1 := h1.frozen
    have c2 := h2.cell
    have f2 := h2.frozen
    have c3 := h3.cell
    have f3 := h3.frozen
    have c4 := h4.cell
    have f4 := h4.frozen
    by_cases h9 : i = 9 ∧ 1 < c
    · obtain ⟨h9a, h9b⟩ := h9
      have HF := Lib.hid (HT.out.trans (if_pos ⟨h9a, h9b⟩))
      have e1 : ((i : Int) == 9) = true := by rw [beq_iff_eq]; omega
      clear h9a HT
      by_cases hc : c < 128
      · have e2 : (1 : Int) < (c : Int) % 128 := by omega
        have e3 : decide (c < 128) = true := by simpa using hc
        rw [e3]
        gi_wp2
        exact ⟨(((KeepsOthers.setCell _ _ _).trans (KeepsOthers.setCell _ _ _)).trans (KeepsOthers.setCell _ _ _)).from _, takeX_mk HF.out h0 h1 h2 h5 h6 rfl rfl rfl⟩
      · have e3 : decide (c < 128) = false := by simpa using hc
        rw [e3]
        gi_wp2
        all_goals exact ⟨(((KeepsOthers.setCell _ _ _).trans (KeepsOthers.setCell _ _ _)).trans (KeepsOthers.setCell _ _ _)).from _, takeX_mk HF.out h0 h1 h2 h5 h6 rfl rfl rfl⟩
    · have HT1 := Lib.hid (HT.out.trans (if_neg h9))
      have hor := acc_or (d := c % 128) h8 ha (by omega) (by omega)
      have hbd := acc_bound (d := c % 128) h8 ha (by omega) (by omega)
      obtain ⟨nv, hnv⟩ : ∃ nv, nv = acc + c % 128 * 2 ^ (7 * i) := ⟨_, rfl⟩
      rw [← hnv] at hor hbd HT1
      have hn64 := hbd.1
      have HBD := Lib.hid hbd.2.2
      clear hbd hnv HT
      simp only [Int.natCast_emod] at hor
      have hor2 : bits BinOp.or IntKind.u64 (acc : Int) (IntKind.u64.wrap ((c : Int) % 128 * 2 ^ (7 * i))) = (nv : Int) := hor
      clear hor
      have hw7 : IntKind.i64.wrap (7 * (i : Int)) = 7 * (i : Int) := by rw [IntKind.wrap_i64]; omega
      have h70 : (0 : Int) ≤ 7 * (i : Int) := by omega
      have h7n : (7 * (i : Int)).toNat = 7 * i := by omega
      by_cases hi9 : i = 9
      · have hc1 : ¬ (1 : Int) < (c : Int) % 128 := by omega
        have hc2 : c < 128 := by omega
        have e1 : ((i : Int) == 9) = true := by rw [beq_iff_eq]; omega
        have e3 : decide (c < 128) = true := by simpa using hc2
        have HI9 := Lib.hid hi9
        clear h9 hi9
        rw [e3]
        gi_wp2
        gi_cut [] from 23 (fun wx => wx = (W.setCell ⟨w.heap.size + 3, 0, none⟩ (.int .u64 nv)).drew)
        case first =>
          gi_region
          all_goals (gi_wp2_with fail; go_meet; rfl)
        case rest =>
        subst hcut
        have g3 := h3.set (.int .u64 nv)
        have g0 := boxed_other (j := w.heap.size + 3) (u := .int .u64 nv) h0 (by omega)
        have g1 := boxed_other (j := w.heap.size + 3) (u := .int .u64 nv) h1 (by omega)
        have g2 := boxed_other (j := w.heap.size + 3) (u := .int .u64 nv) h2 (by omega)
        have g4 := boxed_other (j := w.heap.size + 3) (u := .int .u64 nv) h4 (by omega)
        have hb := (h5.setCell (p := ⟨w.heap.size + 3, 0, none⟩) (by simp) (.int .u64 nv)).drew
        have hk := ((KeepsOthers.setCell W ⟨w.heap.size + 3, 0, none⟩ (.int .u64 nv)).trans (KeepsOthers.drew _)).from w0.heap.size
        have hs : w.heap.size + 6 ≤ ((W.setCell ⟨w.heap.size + 3, 0, none⟩ (.int .u64 nv)).drew).heap.size := by show _ ≤ (W.setCell _ _).heap.size; rw [size_setCell]; exact h6
        have hkb : ((W.setCell ⟨w.heap.size + 3, 0, none⟩ (.int .u64 nv)).drew).heap[w.heap.size + 5]? = W.heap[w.heap.size + 5]? := Below.heap_setCell _ _ _ _ (by simp)
        replace g0 : Boxed (W.setCell ⟨w.heap.size + 3, 0, none⟩ (.int .u64 nv)).drew _ _ _ := g0
        replace g1 : Boxed (W.setCell ⟨w.heap.size + 3, 0, none⟩ (.int .u64 nv)).drew _ _ _ := g1
        replace g2 : Boxed (W.setCell ⟨w.heap.size + 3, 0, none⟩ (.int .u64 nv)).drew _ _ _ := g2
        replace g3 : Boxed (W.setCell ⟨w.heap.size + 3, 0, none⟩ (.int .u64 nv)).drew _ _ _ := g3
        replace g4 : Boxed (W.setCell ⟨w.heap.size + 3, 0, none⟩ (.int .u64 nv)).drew _ _ _ := g4
        clear h0 h1 h2 h3 h4 h5 h6 c0 f0 c1 f1 c2 f2 c3 f3 c4 f4 hor2 hw7 h70 h7n
        generalize (W.setCell ⟨w.heap.size + 3, 0, none⟩ (.int .u64 nv)).drew = W2 at *
        have c0 := g0.cell
        have f0 := g0.frozen
        have c1 := g1.cell
        have f1 := g1.frozen
        have c2 := g2.cell
        have f2 := g2.frozen
        have c3 := g3.cell
        have f3 := g3.frozen
        have c4 := g4.cell
        have f4 := g4.frozen
        have HT2 := Lib.hid (HT1.out.trans (if_pos hc2))
        have q0 := boxed_other (j := w.heap.size + 4) (u := .int .i64 ((i : Int) + 1)) g0 (by omega)
        have q1 := boxed_other (j := w.heap.size + 4) (u := .int .i64 ((i : Int) + 1)) g1 (by omega)
        have q2 := boxed_other (j := w.heap.size + 4) (u := .int .i64 ((i : Int) + 1)) g2 (by omega)
        have qb := hb.setCell (p := ⟨w.heap.size + 4, 0, none⟩) (by simp) (.int .i64 ((i : Int) + 1))
        have qs : w.heap.size + 6 ≤ (W2.setCell ⟨w.heap.size + 4, 0, none⟩ (.int .i64 ((i : Int) + 1))).heap.size := by rw [size_setCell]; exact hs
        have HQ := Lib.hid (And.intro q0 (And.intro q1 (And.intro q2 (And.intro qb qs))))
        clear q0 q1 q2 qb qs
        by_cases hz : c = 0 ∧ 0 < i
        · have HT3 := Lib.hid (HT2.out.trans (if_pos hz))
          have z1 : (c : Int) % 128 = 0 := by omega
          have z2 : (1 : Int) < (i : Int) + 1 := by omega
          clear hz
          gi_wp2
          obtain ⟨q0, q1, q2, qb, qs⟩ := HQ.out
          exact ⟨hk.trans (((((KeepsOthers.setCell _ _ _).trans (KeepsOthers.setCell _ _ _)).trans (KeepsOthers.setCell _ _ _)).trans (KeepsOthers.setCell _ _ _)).from _), takeX_mk HT3.out q0 q1 q2 qb qs rfl rfl rfl⟩
        · have HT3 := Lib.hid (HT2.out.trans (if_neg hz))
          have hzz : ((c : Int) % 128 == 0) = false ∨ ((c : Int) % 128 = 0 ∧ ¬ (1 : Int) < (i : Int) + 1) := by
            by_cases h : (c : Int) % 128 = 0
            · exact .inr ⟨h, by omega⟩
            · exact .inl (by rw [beq_eq_false_iff_ne]; exact h)
          clear hz
          rcases hzz with z1 | ⟨z1, z2⟩
          all_goals
            gi_wp2
            gi_region
            all_goals
              obtain ⟨q0, q1, q2, qb, qs⟩ := HQ.out
              gi_wp2
              exact ⟨hk.trans ((((((KeepsOthers.setCell _ _ _).trans (KeepsOthers.setCell _ _ _)).trans (KeepsOthers.setCell _ _ _)).trans (KeepsOthers.setCell _ _ _)).trans (KeepsOthers.drew _)).from _), takeX_drew (takeX_mk HT3.out q0 q1 q2 qb qs rfl rfl rfl)⟩
      · have e1 : ((i : Int) == 9) = false := by rw [beq_eq_false_iff_ne]; omega
        have hi9' : i < 9 := by omega
        clear h9 hi9
        obtain ⟨lb, hlb⟩ : ∃ lb, decide (c < 128) = lb := ⟨_, rfl⟩
        rw [hlb]
        gi_wp2
        gi_cut [] from 23 (fun wx => wx = (W.setCell ⟨w.heap.size + 3, 0, none⟩ (.int .u64 nv)).drew)
        case first =>
          gi_region
          all_goals (gi_wp2_with fail; go_meet; rfl)
        case rest =>
        subst hcut
        have g3 := h3.set (.int .u64 nv)
        have g0 := boxed_other (j := w.heap.size + 3) (u := .int .u64 nv) h0 (by omega)
        have g1 := boxed_other (j := w.heap.size + 3) (u := .int .u64 nv) h1 (by omega)
        have g2 := boxed_other (j := w.heap.size + 3) (u := .int .u64 nv) h2 (by omega)
        have g4 := boxed_other (j := w.heap.size + 3) (u := .int .u64 nv) h4 (by omega)
        have hb := (h5.setCell (p := ⟨w.heap.size + 3, 0, none⟩) (by simp) (.int .u64 nv)).drew
        have hk := ((KeepsOthers.setCell W ⟨w.heap.size + 3, 0, none⟩ (.int .u64 nv)).trans (KeepsOthers.drew _)).from w0.heap.size
        have hs : w.heap.size + 6 ≤ ((W.setCell ⟨w.heap.size + 3, 0, none⟩ (.int .u64 nv)).drew).heap.size := by show _ ≤ (W.setCell _ _).heap.size; rw [size_setCell]; exact h6
        have hkb : ((W.setCell ⟨w.heap.size + 3, 0, none⟩ (.int .u64 nv)).drew).heap[w.heap.size + 5]? = W.heap[w.heap.size + 5]? := Below.heap_setCell _ _ _ _ (by simp)
        replace g0 : Boxed (W.setCell ⟨w.heap.size + 3, 0, none⟩ (.int .u64 nv)).drew _ _ _ := g0
        replace g1 : Boxed (W.setCell ⟨w.heap.size + 3, 0, none⟩ (.int .u64 nv)).drew _ _ _ := g1
        replace g2 : Boxed (W.setCell ⟨w.heap.size + 3, 0, none⟩ (.int .u64 nv)).drew _ _ _ := g2
        replace g3 : Boxed (W.setCell ⟨w.heap.size + 3, 0, none⟩ (.int .u64 nv)).drew _ _ _ := g3
        replace g4 : Boxed (W.setCell ⟨w.heap.size + 3, 0, none⟩ (.int .u64 nv)).drew _ _ _ := g4
        clear h0 h1 h2 h3 h4 h5 h6 c0 f0 c1 f1 c2 f2 c3 f3 c4 f4 hor2 hw7 h70 h7n
        generalize (W.setCell ⟨w.heap.size + 3, 0, none⟩ (.int .u64 nv)).drew = W2 at *
        have c0 := g0.cell
        have f0 := g0.frozen
        have c1 := g1.cell
        have f1 := g1.frozen
        have c2 := g2.cell
        have f2 := g2.frozen
        have c3 := g3.cell
        have f3 := g3.frozen
        have c4 := g4.cell
        have f4 := g4.frozen
        cases lb with
        | true =>
          have hc2 : c < 128 := by simpa using hlb
          clear hlb
          have HT2 := Lib.hid (HT1.out.trans (if_pos hc2))
          have q0 := boxed_other (j := w.heap.size + 4) (u := .int .i64 ((i : Int) + 1)) g0 (by omega)
          have q1 := boxed_other (j := w.heap.size + 4) (u := .int .i64 ((i : Int) + 1)) g1 (by omega)
          have q2 := boxed_other (j := w.heap.size + 4) (u := .int .i64 ((i : Int) + 1)) g2 (by omega)
          have qb := hb.setCell (p := ⟨w.heap.size + 4, 0, none⟩) (by simp) (.int .i64 ((i : Int) + 1))
          have qs : w.heap.size + 6 ≤ (W2.setCell ⟨w.heap.size + 4, 0, none⟩ (.int .i64 ((i : Int) + 1))).heap.size := by rw [size_setCell]; exact hs
          have HQ := Lib.hid (And.intro q0 (And.intro q1 (And.intro q2 (And.intro qb qs))))
          clear q0 q1 q2 qb qs
          by_cases hz : c = 0 ∧ 0 < i
          · have HT3 := Lib.hid (HT2.out.trans (if_pos hz))
            have z1 : (c : Int) % 128 = 0 := by omega
            have z2 : (1 : Int) < (i : Int) + 1 := by omega
            clear hz
            gi_wp2
            obtain ⟨q0, q1, q2, qb, qs⟩ := HQ.out
            exact ⟨hk.trans (((((KeepsOthers.setCell _ _ _).trans (KeepsOthers.setCell _ _ _)).trans (KeepsOthers.setCell _ _ _)).trans (KeepsOthers.setCell _ _ _)).from _), takeX_mk HT3.out q0 q1 q2 qb qs rfl rfl rfl⟩
          · have HT3 := Lib.hid (HT2.out.trans (if_neg hz))
            have hzz : ((c : Int) % 128 == 0) = false ∨ ((c : Int) % 128 = 0 ∧ ¬ (1 : Int) < (i : Int) + 1) := by
              by_cases h : (c : Int) % 128 = 0
              · exact .inr ⟨h, by omega⟩
              · exact .inl (by rw [beq_eq_false_iff_ne]; exact h)
            clear hz
            rcases hzz with z1 | ⟨z1, z2⟩
            all_goals
              gi_wp2
              gi_region
              all_goals
                obtain ⟨q0, q1, q2, qb, qs⟩ := HQ.out
                gi_wp2
                exact ⟨hk.trans ((((((KeepsOthers.setCell _ _ _).trans (KeepsOthers.setCell _ _ _)).trans (KeepsOthers.setCell _ _ _)).trans (KeepsOthers.setCell _ _ _)).trans (KeepsOthers.drew _)).from _), takeX_drew (takeX_mk HT3.out q0 q1 q2 qb qs rfl rfl rfl)⟩
        | false =>
          have hc2 : ¬ c < 128 := by simpa using hlb
          have HT2 := Lib.hid (HT1.out.trans (if_neg hc2))
          clear hlb
          gi_wp2
          refine ⟨hk.trans ((KeepsOthers.setCell _ _ _).from _), ⟨by rw [size_setCell]; exact Nat.le_trans (heapsz hk) (Nat.le_refl _), (Below.heap_setCell _ _ _ _ (by simp)).trans hkb⟩, ⟨boxed_other g0 (by omega), boxed_other g1 (by omega), boxed_other g2 (by omega), nv, boxed_other g3 (by omega), ?_, ?_, ?_⟩, ⟨hb.setCell (p := ⟨w.heap.size + 4, 0, none⟩) (by simp) _, by rw [size_setCell]; exact hs⟩, ?_, ?_⟩
          · have := g4.set (.int .i64 ((i : Int) + 1)); rw [List.length_append, ← HI.out]; exact this
          · rw [List.length_append, ← HI.out]; exact HBD.out hi9'
          · rw [List.length_append, ← HI.out]; exact HT2.out
          · intro x hx
            rcases List.mem_append.1 hx with h | h
            · exact HP.out x h
            · rw [List.mem_singleton.1 h]
          · rw [List.length_append, ← HI.out]; simp; omega
  case done =>
    rintro D W hD ⟨⟨h0, h1, h2, acc, h3, h4, ha, ht⟩, ⟨h5, h6⟩, h7, h8⟩ hK
    have hT : takeV l = (0, 0, 1) := by
      rw [ht]; exact takeGo_end (by have := grp_all 10 l h7; omega)
    have HX := Lib.hid (takeX_mk hT h0 h1 h2 h5 h6 (va := .int .u64 0) (vb := .int .i64 0) (ve := .int .i64 1) rfl rfl rfl)
    have hK' := ((((KeepsOthers.setCell W ⟨w.heap.size, 0, none⟩ (.int .u64 0)).trans (KeepsOthers.setCell _ ⟨w.heap.size + 1, 0, none⟩ (.int .i64 0))).trans (KeepsOthers.setCell _ ⟨w.heap.size + 2, 0, none⟩ (.int .i64 1)))).same D _ hK rfl
    have HKK := Lib.hid hK'
    have c0 := h0.cell
    have f0 := h0.frozen
    have c1 := h1.cell
    have f1 := h1.frozen
    have c2 := h2.cell
    have f2 := h2.frozen
    clear ht ha h3 h4 hT hK'
    gi_wp2
    obtain ⟨_, k0, k1, k2, kb, ks⟩ := HX.out
    have hK2 := HKK.out
    generalize ((W.setCell ⟨w.heap.size, 0, none⟩ (.int .u64 0)).setCell ⟨w.heap.size + 1, 0, none⟩ (.int .i64 0)).setCell ⟨w.heap.size + 2, 0, none⟩ (.int .i64 1) = W3 at *
    refine ⟨by simp, .inl ⟨_, _, rfl, run_takeDeferred hK2, ?_⟩⟩
    have c0' := cell_kept k0.cell (grownBy_putObj' W3 D (.deferred none)) (fun r e => by cases e; exact ⟨_, hK2, rfl⟩)
    have c1' := cell_kept k1.cell (grownBy_putObj' W3 D (.deferred none)) (fun r e => by cases e; exact ⟨_, hK2, rfl⟩)
    have c2' := cell_kept k2.cell (grownBy_putObj' W3 D (.deferred none)) (fun r e => by cases e; exact ⟨_, hK2, rfl⟩)
    refine ⟨.tuple #[.int .u64 ((takeV l).1 : Nat), .int .i64 ((takeV l).2.1 : Nat), .int .i64 (takeV l).2.2], by simp [results, Tryz.results147, go_sem, c0', c1', c2'], rfl, kb.grown (grownBy_putObj' _ D (.deferred none)) (by omega) (fun k e => by cases e; omega)⟩
  case stop =>
    rintro D c pre W hD hpre ⟨rfl, h0, h1, h2, h5, h6⟩ hK
    have c0 := h0.cell
    have c1 := h1.cell
    have c2 := h2.cell
    gi_wp2
    refine ⟨by simp, .inl ⟨_, _, rfl, run_takeDeferred hK, ?_⟩⟩
    have c0' := cell_kept c0 (grownBy_putObj' W D (.deferred none)) (fun r e => by cases e; exact ⟨_, hK, rfl⟩)
    have c1' := cell_kept c1 (grownBy_putObj' W D (.deferred none)) (fun r e => by cases e; exact ⟨_, hK, rfl⟩)
    have c2' := cell_kept c2 (grownBy_putObj' W D (.deferred none)) (fun r e => by cases e; exact ⟨_, hK, rfl⟩)
    refine ⟨.tuple #[.int .u64 ((takeV l).1 : Nat), .int .i64 ((takeV l).2.1 : Nat), .int .i64 (takeV l).2.2], by simp [results, Tryz.results147, go_sem, c0', c1', c2'], rfl, h5.grown (grownBy_putObj' _ D (.deferred none)) (by omega) (fun k e => by cases e; omega)⟩
end Go.Proofs.YtaompdnnkfmjhaaGreatDoor
