/- GcNotes: a collection that is told of a key. -/
import Derived.Test.YthjoaoakadaieaaGcRef
import Derived.Test.YthjoaoakadaieaaAwake20
import Derived.Test.YthjoaoakadaieaaHeld
namespace Go.Proofs.Ythjoaoakadaieaa
open Go.RowKit

theorem fit5_up {m : List (List UInt8)} (h : fit5 m = true) : upS m := by
  unfold fit5 at h
  rw [Bool.and_eq_true] at h
  exact upN_pairs _ h.2
theorem noteM_up {on : Bool} {m : List (List UInt8)} {k : List UInt8} (h : upS m) : upS (noteM on m k) := by
  unfold noteM
  split
  · exact addL_up h
  · exact h
theorem note_twice (on : Bool) (q m : List (List UInt8)) (k : List UInt8) : noteQ on (noteQ on q m k) (noteM on m k) k = noteQ on q m k ∧ noteM on (noteM on m k) k = noteM on m k := by
  by_cases h : on = true ∧ k.length = 32 ∧ k ∉ m
  · have h1 : noteM on m k = addL m k := if_pos h
    have h2 : k ∈ noteM on m k := by rw [h1, addL_mem]; exact .inl rfl
    have h3 : ¬ (on = true ∧ k.length = 32 ∧ k ∉ noteM on m k) := fun h4 => h4.2.2 h2
    exact ⟨if_neg h3, if_neg h3⟩
  · have h1 : noteM on m k = m := if_neg h
    have h2 : noteQ on q m k = q := if_neg h
    rw [h1, h2]
    exact ⟨h2, h1⟩
theorem addL_len {l : List (List UInt8)} {k : List UInt8} (hu : upS l) (h : k ∉ l) : (addL l k).length = l.length + 1 := by
  unfold addL
  rw [if_neg h, withK_up (key := (id : List UInt8 → List UInt8)) (by simpa using hu)]
  have := posL_le l k
  simp [h]
  omega
/-- A new key, or a known one. -/
structure NoteR (q m : List (List UInt8)) (k : List UInt8) : Prop where
  has : k ∈ noteM true m k
  marked : noteM true m k = addL m k
  len : (noteQ true q m k).length + m.length = (noteM true m k).length + q.length
  lq : q.length ≤ (noteQ true q m k).length ∧ (noteQ true q m k).length ≤ q.length + 1
  lm : (noteM true m k).length ≤ m.length + 1
theorem note_r {q m : List (List UInt8)} {k : List UInt8} (hu : upS m) (h : k.length = 32) : NoteR q m k := by
  by_cases hin : k ∈ m
  · have h1 : noteM true m k = m := if_neg (fun h => h.2.2 hin)
    have h2 : noteQ true q m k = q := if_neg (fun h => h.2.2 hin)
    refine ⟨by rw [h1]; exact hin, by rw [h1]; unfold addL; rw [if_pos hin], by rw [h1, h2]; omega, by rw [h2]; omega, by rw [h1]; omega⟩
  · have h1 : noteM true m k = addL m k := if_pos ⟨rfl, h, hin⟩
    have h2 : noteQ true q m k = q ++ [k] := if_pos ⟨rfl, h, hin⟩
    refine ⟨by rw [h1, addL_mem]; exact .inl rfl, h1, ?_, ?_, ?_⟩
    · rw [h1, h2, addL_len hu hin]; simp; omega
    · rw [h2]; simp
    · rw [h1, addL_len hu hin]; omega
theorem note_len (on : Bool) (q m : List (List UInt8)) (k : List UInt8) (hu : upS m) : (noteQ on q m k).length ≤ q.length + 1 ∧ (noteM on m k).length ≤ m.length + 1 := by
  by_cases h : on = true ∧ k.length = 32 ∧ k ∉ m
  · have h1 : noteM on m k = addL m k := if_pos h
    have h2 : noteQ on q m k = q ++ [k] := if_pos h
    rw [h1, h2, addL_len hu h.2.2]; simp
  · have h1 : noteM on m k = m := if_neg h
    have h2 : noteQ on q m k = q := if_neg h
    rw [h1, h2]; omega

set_option maxHeartbeats 16000000 in
set_option maxRecDepth 100000 in
theorem notes_walk (on : Bool) (qv mv : Value) (q m : List (List UInt8)) (k : List UInt8) (w : World) (hq : StrRow w qv q) (hm : StrRow w mv m) (hqb : q.length ≤ 140737488355328) (hmb : m.length ≤ 140737488355328) :
    Calls Try.prog 3 #[GcV on qv mv, S k] w fun e w' => e = .returned (.bool true) ∧ Below w.heap.size w w' := by
  obtain ⟨w1, hw1, hB1, hg1⟩ : ∃ w1, w1 = w.alloc (GCells on qv mv) ∧ Below w.heap.size w w1 ∧ w1.heap[w.heap.size]? = some (GCells on qv mv) :=
    ⟨_, rfl, (Below.refl _ _).alloc (Nat.le_refl _) _, heap_alloc_new w _⟩
  have hq1 := hq.below hB1
  have hm1 := hm.below hB1
  obtain ⟨qa, qc, rfl, _⟩ := hq
  obtain ⟨ma, mc, rfl, _⟩ := hm
  obtain ⟨y0, y1, y2⟩ := gcells hg1
  have hwr : IntKind.i64.wrap ((q.length : Int) + (m.length : Int)) = (q.length : Int) + (m.length : Int) := by rw [IntKind.wrap_i64]; omega
  go_enter Try.func3, Try.ntmps3
  go_upto_region 1 with fail
  rw [← hw1]
  clear hw1
  by_cases g0 : 200 < q.length + m.length
  · have g0' : (200 : Int) < (q.length : Int) + (m.length : Int) := by omega
    (have CA := awake20_walk w1; go_wp2_with fail; refine CA.mono ?_; rintro e wy ⟨rfl, hby⟩; have hBy := below_chain hB1 hby (Below.size hB1); go_wp2; go_ret; exact ⟨rfl, hBy⟩)
  have g0' : ¬ (200 : Int) < (q.length : Int) + (m.length : Int) := by omega
  by_cases g1 : 100 < k.length
  · have g1' : (100 : Int) < (k.length : Int) := by omega
    (have CA := awake20_walk w1; go_wp2_with fail; refine CA.mono ?_; rintro e wy ⟨rfl, hby⟩; have hBy := below_chain hB1 hby (Below.size hB1); go_wp2; go_ret; exact ⟨rfl, hBy⟩)
  have g1' : ¬ (100 : Int) < (k.length : Int) := by omega
  have C := rfit20_walk on (.slice qa q.length qc) (.slice ma m.length mc) q m w1 hq1 hm1 (by omega) (by omega)
  go_wp2_with fail
  refine C.mono ?_
  rintro e w2 ⟨b, rfl, hfit, hb2⟩
  have hB2 := below_chain hB1 hb2 hB1.size
  have hg2 := keptG hb2 hg1
  have hq2 := hq1.below hb2
  have hm2 := hm1.below hb2
  clear C y0 y1 y2 hg1 hq1 hm1 hb2
  cases b with
  | false => (have CA := awake20_walk w2; go_wp2_with fail; refine CA.mono ?_; rintro e wy ⟨rfl, hby⟩; have hBy := below_chain hB2 hby (Below.size hB2); go_wp2; go_ret; exact ⟨rfl, hBy⟩)
  | true =>
  have hup := fit5_up (hfit rfl)
  have HUP := Lib.hid hup
  clear hfit
  obtain ⟨y0, y1, y2⟩ := gcells hg2
  have C := gnote_walk on (.slice qa q.length qc) (.slice ma m.length mc) q m k w2 hq2 hm2 (by omega) (by omega) hup
  have HLEN := Lib.hid (note_len on q m k hup)
  have HTW := Lib.hid (note_twice on q m k)
  have HNR := Lib.hid (fun (h : k.length = 32) => note_r (q := q) (m := m) (k := k) hup h)
  have HUP1 := Lib.hid (noteM_up (on := on) (k := k) hup)
  have HN := Lib.hid (fun (h : ¬ (on = true ∧ k.length = 32)) => show noteQ on q m k = q ∧ noteM on m k = m from ⟨if_neg (fun h2 => h ⟨h2.1, h2.2.1⟩), if_neg (fun h2 => h ⟨h2.1, h2.2.1⟩)⟩)
  go_wp2_with fail
  refine C.mono ?_
  rintro e w3 ⟨qv3, mv3, rfl, hqa3, hma3, hb3⟩
  have hB3 := below_chain hB2 hb3 hB2.size
  have hg3 := keptG hb3 hg2
  have hq3 := hq2.below hb3
  have hm3 := hm2.below hb3
  clear C y0 y1 y2 hg2 hq2 hm2 hb3
  obtain ⟨Q1, hQ1⟩ : ∃ Q, noteQ on q m k = Q := ⟨_, rfl⟩
  obtain ⟨M1, hM1⟩ : ∃ M, noteM on m k = M := ⟨_, rfl⟩
  rw [hQ1] at hqa3 HLEN HTW HN
  rw [hM1] at hma3 HLEN HTW HUP1 HN
  have HQ1 := Lib.hid hQ1
  have HM1 := Lib.hid hM1
  clear hQ1 hM1 hup
  have hqa3' := hqa3
  have hma3' := hma3
  obtain ⟨qa3, qc3, rfl, _⟩ := hqa3'
  obtain ⟨ma3, mc3, rfl, _⟩ := hma3'
  have hl1 := HLEN.out.1
  have hl2 := HLEN.out.2
  obtain ⟨w4, hw4, hb4, hx4⟩ : ∃ w4, w4 = w3.alloc (GCells on (.slice qa3 Q1.length qc3) (.slice ma3 M1.length mc3)) ∧ Below w3.heap.size w3 w4 ∧ w4.heap[w3.heap.size]? = some (GCells on (.slice qa3 Q1.length qc3) (.slice ma3 M1.length mc3)) := ⟨_, rfl, (Below.refl _ _).alloc (Nat.le_refl _) _, heap_alloc_new _ _⟩
  have hB4 := below_chain hB3 hb4 hB3.size
  have hg4 := keptG hb4 hg3
  have hq4 := hq3.below hb4
  have hm4 := hm3.below hb4
  have hqa4 := hqa3.below hb4
  have hma4 := hma3.below hb4
  clear hg3 hq3 hm3 hqa3 hma3 hb4
  go_upto_region 4 with fail
  rw [← hw4]
  clear hw4
  have n0 := LaterOf.cell (gcells hx4).1
  have n1 := LaterOf.cell (gcells hx4).2.1
  have n2 := LaterOf.cell (gcells hx4).2.2
  (refine wp_held (by kernel_rfl) ?_; intro lw)
  (refine wpAnyH_take (i := 0) (v := ?_) rfl (by kernel_rfl) (by kernel_rfl) (by kernel_rfl) (fun _ _ _ h => h) (Or.inl ⟨by rfl, ?_⟩) ⟨_, rfl⟩ ?_; rotate_left; (intro w9 hS9; obtain ⟨p9, hp9⟩ := hS9; subst hp9; go_simp; try with_reducible rfl))
  (refine wpAnyH_take (i := 1) (v := ?_) rfl (by kernel_rfl) (by kernel_rfl) (by kernel_rfl) (fun _ _ _ h => h) (Or.inl ⟨by rfl, ?_⟩) ⟨_, rfl⟩ ?_; rotate_left; (intro w9 hS9; obtain ⟨p9, hp9⟩ := hS9; subst hp9; go_simp; try with_reducible rfl))
  (refine wpAnyH_take (i := 3) (v := ?_) rfl (by kernel_rfl) (by kernel_rfl) (by kernel_rfl) (fun _ _ _ h => h) (Or.inl ⟨by rfl, ?_⟩) ⟨_, rfl⟩ ?_; rotate_left; (intro w9 hS9; obtain ⟨p9, hp9⟩ := hS9; subst hp9; go_simp; try with_reducible rfl))
  have CN := gnote_walk on (.slice qa3 Q1.length qc3) (.slice ma3 M1.length mc3) Q1 M1 k lw.world (hqa4.below lw.below) (hma4.below lw.below) (by omega) (by omega) HUP1.out
  (refine wpAnyH_one (i := 2) (by kernel_rfl) rfl (fun K hK => ?_); go_simp; refine (CN).mono ?_; rintro e wz ⟨qv5, mv5, rfl, hqa5, hma5, hb5⟩; (obtain ⟨lw5, rfl⟩ : ∃ p : LaterOf _, wz = p.world := ⟨⟨wz, below_chain lw.below hb5 lw.below.size⟩, rfl⟩); refine hK _ _ ⟨lw5, rfl⟩ ?_; clear hK K)
  rw [HTW.out.1] at hqa5
  rw [HTW.out.2] at hma5
  have CS := rsame20_walk on qv5 mv5 (.slice qa3 Q1.length qc3) (.slice ma3 M1.length mc3) Q1 M1 lw5.world hqa5 hma5 ((hqa4.below lw.below).below hb5) ((hma4.below lw.below).below hb5) (by omega) (by omega)
  (refine wpAnyH_one (i := 4) (by kernel_rfl) rfl (fun K hK => ?_); go_simp; refine (CS).mono ?_; rintro e wz ⟨rfl, hb6⟩; (obtain ⟨lw6, rfl⟩ : ∃ p : LaterOf _, wz = p.world := ⟨⟨wz, below_chain lw5.below hb6 lw5.below.size⟩, rfl⟩); refine hK _ _ ⟨lw6, rfl⟩ ?_; clear hK K)
  (refine wpAnyH_one (i := 5) (by kernel_rfl) rfl (fun K hK => ?_); go_simp; refine hK _ _ ⟨_, rfl⟩ ?_; clear hK K)
  (refine wpAnyH_done (by kernel_rfl) ?_ _)
  have hB6 := below_chain hB4 lw6.below hB4.size
  have hx6 := keptG lw6.below hx4
  have hg6 := keptG lw6.below hg4
  have hq6 := hq4.below lw6.below
  have hm6 := hm4.below lw6.below
  have hqa6 := hqa4.below lw6.below
  have hma6 := hma4.below lw6.below
  clear n0 n1 n2 CN CS hqa5 hma5 hb5 hb6 hx4 hg4 hq4 hm4 hqa4 hma4
  obtain ⟨w6, hw6⟩ : ∃ w6, lw6.world = w6 := ⟨_, rfl⟩
  rw [hw6] at hB6 hx6 hg6 hq6 hm6 hqa6 hma6 ⊢
  clear hw6 lw6 lw5 lw
  obtain ⟨y0, y1, y2⟩ := gcells hg6
  obtain ⟨z0, z1, z2⟩ := gcells hx6
  by_cases g2 : on = true ∧ k.length = 32
  case neg =>
    have h9 := HN.out g2
    obtain ⟨h91, h92⟩ := h9
    have CS := rsame20_walk on (.slice qa3 Q1.length qc3) (.slice ma3 M1.length mc3) (.slice qa q.length qc) (.slice ma m.length mc) Q1 M1 w6 hqa6 hma6 (by rw [h91]; exact hq6) (by rw [h92]; exact hm6) (by omega) (by omega)
    have g2' : on = false ∨ (on = true ∧ ((k.length : Int) != 32) = true) := by
      cases on with
      | false => exact .inl rfl
      | true => exact .inr ⟨rfl, by rw [bne_iff_ne]; intro h; exact g2 ⟨rfl, by omega⟩⟩
    clear h91 h92 g2
    rcases g2' with rfl | ⟨rfl, g3⟩
    all_goals
      go_wp2_with fail
      refine CS.mono ?_
      rintro e w7 ⟨rfl, hb7⟩
      have hB7 := below_chain hB6 hb7 hB6.size
      (have CA := awake20_walk w7; go_wp2_with fail; refine CA.mono ?_; rintro e wy ⟨rfl, hby⟩; have hBy := below_chain hB7 hby (Below.size hB7); go_wp2; go_ret; exact ⟨rfl, hBy⟩)
  obtain ⟨rfl, g3⟩ := g2
  have NR := HNR.out g3
  have g3' : ((k.length : Int) != 32) = false := by rw [bne_eq_false_iff_eq]; omega
  have HHAS := Lib.hid NR.has
  have HMK := Lib.hid NR.marked
  have hlen := NR.len
  have hlq := NR.lq
  have hlm := NR.lm
  rw [HQ1.out, HM1.out] at hlen
  rw [HQ1.out] at hlq
  rw [HM1.out] at hlm HHAS HMK
  obtain ⟨d, hd⟩ : ∃ d : Int, (Q1.length : Int) - (q.length : Int) = d := ⟨_, rfl⟩
  have hd1 : IntKind.i64.wrap ((Q1.length : Int) - (q.length : Int)) = d := by rw [IntKind.wrap_i64]; omega
  have hd2 : IntKind.i64.wrap ((M1.length : Int) - (m.length : Int)) = d := by rw [IntKind.wrap_i64]; omega
  have hdd : (d == d) = true := by simp
  have HD := Lib.hid (And.intro hd1 hd2)
  clear hlen hlq hlm hd NR g3
  go_upto_region 8 with fail
  have n0 := LaterOf.cell z0
  have n1 := LaterOf.cell z1
  have n2 := LaterOf.cell z2
  have o0 := LaterOf.cell y0
  have o1 := LaterOf.cell y1
  have o2 := LaterOf.cell y2
  clear y0 y1 y2 z0 z1 z2
  (refine wp_held (by kernel_rfl) ?_; intro lw)
  (refine wpAnyH_take (i := 0) (v := ?_) rfl (by kernel_rfl) (by kernel_rfl) (by kernel_rfl) (fun _ _ _ h => h) (Or.inl ⟨by rfl, ?_⟩) ⟨_, rfl⟩ ?_; rotate_left; (intro w9 hS9; obtain ⟨p9, hp9⟩ := hS9; subst hp9; go_simp; try with_reducible rfl))
  (refine wpAnyH_take (i := 1) (v := ?_) rfl (by kernel_rfl) (by kernel_rfl) (by kernel_rfl) (fun _ _ _ h => h) (Or.inl ⟨by rfl, ?_⟩) ⟨_, rfl⟩ ?_; rotate_left; (intro w9 hS9; obtain ⟨p9, hp9⟩ := hS9; subst hp9; go_simp; try with_reducible rfl))
  (refine wpAnyH_take (i := 2) (v := ?_) rfl (by kernel_rfl) (by kernel_rfl) (by kernel_rfl) (fun _ _ _ h => h) (Or.inl ⟨by rfl, ?_⟩) ⟨_, rfl⟩ ?_; rotate_left; (intro w9 hS9; obtain ⟨p9, hp9⟩ := hS9; subst hp9; go_simp; try with_reducible rfl))
  have CH := rhas_walk (.slice ma3 M1.length mc3) M1 k lw.world (hma6.below lw.below) (by omega)
  rw [decide_eq_true HHAS.out] at CH
  (refine wpAnyH_one (i := 3) (by kernel_rfl) rfl (fun K hK => ?_); go_simp; refine (CH).mono ?_; rintro e wz ⟨rfl, hb7⟩; (obtain ⟨lw7, rfl⟩ : ∃ p : LaterOf _, wz = p.world := ⟨⟨wz, below_chain lw.below hb7 lw.below.size⟩, rfl⟩); refine hK _ _ ⟨lw7, rfl⟩ ?_; clear hK K)
  (refine wpAnyH_one (i := 4) (by kernel_rfl) rfl (fun K hK => ?_); go_simp; refine hK _ _ ⟨_, rfl⟩ ?_; clear hK K)
  (refine wpAnyH_take (i := 5) (v := ?_) rfl (by kernel_rfl) (by kernel_rfl) (by kernel_rfl) (fun _ _ _ h => h) (Or.inl ⟨by rfl, ?_⟩) ⟨_, rfl⟩ ?_; rotate_left; (intro w9 hS9; obtain ⟨p9, hp9⟩ := hS9; subst hp9; go_simp; try with_reducible rfl))
  (refine wpAnyH_take (i := 6) (v := ?_) rfl (by kernel_rfl) (by kernel_rfl) (by kernel_rfl) (fun _ _ _ h => h) (Or.inl ⟨by rfl, ?_⟩) ⟨_, rfl⟩ ?_; rotate_left; (intro w9 hS9; obtain ⟨p9, hp9⟩ := hS9; subst hp9; go_simp; try with_reducible rfl))
  (refine wpAnyH_take (i := 7) (v := ?_) rfl (by kernel_rfl) (by kernel_rfl) (by kernel_rfl) (fun _ _ _ h => h) (Or.inl ⟨by rfl, ?_⟩) ⟨_, rfl⟩ ?_; rotate_left; (intro w9 hS9; obtain ⟨p9, hp9⟩ := hS9; subst hp9; go_simp; try with_reducible rfl))
  (refine wpAnyH_take (i := 8) (v := ?_) rfl (by kernel_rfl) (by kernel_rfl) (by kernel_rfl) (fun _ _ _ h => h) (Or.inl ⟨by rfl, ?_⟩) ⟨_, rfl⟩ ?_; rotate_left; (intro w9 hS9; obtain ⟨p9, hp9⟩ := hS9; subst hp9; go_simp; try with_reducible rfl))
  (refine wpAnyH_take (i := 9) (v := ?_) rfl (by kernel_rfl) (by kernel_rfl) (by kernel_rfl) (fun _ _ _ h => h) (Or.inl ⟨by rfl, ?_⟩) ⟨_, rfl⟩ ?_; rotate_left; (intro w9 hS9; obtain ⟨p9, hp9⟩ := hS9; subst hp9; go_simp; try with_reducible rfl))
  obtain ⟨lw8, hlw8⟩ : ∃ p : LaterOf w6, p.world = lw7.world.alloc (.cells #[S k] 9) := ⟨⟨_, lw7.below.alloc lw7.below.size _⟩, rfl⟩
  have hrow := row_lit lw7.world 9 [k] (by simp)
  refine wpAnyH_one (i := 10) (by kernel_rfl) rfl (fun K hK => ?_)
  go_simp
  refine hK _ _ ⟨lw8, hlw8.symm⟩ ?_
  clear hK K
  rw [← hlw8]
  have hrow8 : StrRow lw8.world (.slice (some ⟨lw7.world.heap.size, 0, none⟩) 1 1) [k] := by rw [hlw8]; simpa using hrow
  clear hlw8 hrow
  have CJ := rjoin1_walk (.slice ma m.length mc) (.slice (some ⟨lw7.world.heap.size, 0, none⟩) 1 1) m k lw8.world (hm6.below lw8.below) hrow8 (by omega) HUP.out
  (refine wpAnyH_one (i := 11) (by kernel_rfl) rfl (fun K hK => ?_); go_simp; refine (CJ).mono ?_; rintro e wz ⟨vj, rfl, hrj, hb9⟩; (obtain ⟨lw9, rfl⟩ : ∃ p : LaterOf _, wz = p.world := ⟨⟨wz, below_chain lw8.below hb9 lw8.below.size⟩, rfl⟩); refine hK _ _ ⟨lw9, rfl⟩ ?_; clear hK K)
  have hma9 := hma6.below lw9.below
  have CS := rsame5_walk (.slice ma3 M1.length mc3) vj M1 (addL m k) lw9.world hma9 hrj (by omega)
  rw [decide_eq_true HMK.out] at CS
  obtain ⟨aj, cj, rfl, _⟩ := hrj
  (refine wpAnyH_one (i := 12) (by kernel_rfl) rfl (fun K hK => ?_); go_simp; refine (CS).mono ?_; rintro e wz ⟨rfl, hb10⟩; (obtain ⟨lw10, rfl⟩ : ∃ p : LaterOf _, wz = p.world := ⟨⟨wz, below_chain lw9.below hb10 lw9.below.size⟩, rfl⟩); refine hK _ _ ⟨lw10, rfl⟩ ?_; clear hK K)
  (refine wpAnyH_one (i := 13) (by kernel_rfl) rfl (fun K hK => ?_); go_simp; refine hK _ _ ⟨_, rfl⟩ ?_; clear hK K)
  (refine wpAnyH_one (i := 14) (by kernel_rfl) rfl (fun K hK => ?_); go_simp; refine hK _ _ ⟨_, rfl⟩ ?_; clear hK K)
  (refine wpAnyH_take (i := 15) (v := ?_) rfl (by kernel_rfl) (by kernel_rfl) (by kernel_rfl) (fun _ _ _ h => h) (Or.inl ⟨by rfl, ?_⟩) ⟨_, rfl⟩ ?_; rotate_left; (intro w9 hS9; obtain ⟨p9, hp9⟩ := hS9; subst hp9; go_simp; try with_reducible rfl))
  (refine wpAnyH_take (i := 16) (v := ?_) rfl (by kernel_rfl) (by kernel_rfl) (by kernel_rfl) (fun _ _ _ h => h) (Or.inl ⟨by rfl, ?_⟩) ⟨_, rfl⟩ ?_; rotate_left; (intro w9 hS9; obtain ⟨p9, hp9⟩ := hS9; subst hp9; go_simp; try with_reducible rfl))
  go_simp
  (refine wpAnyH_take (i := 17) (v := ?_) rfl (by kernel_rfl) (by kernel_rfl) (by kernel_rfl) (fun _ _ _ h => h) (Or.inl ⟨by rfl, ?_⟩) ⟨_, rfl⟩ ?_; rotate_left; (intro w9 hS9; obtain ⟨p9, hp9⟩ := hS9; subst hp9; go_simp; try with_reducible rfl))
  go_simp
  (refine wpAnyH_take (i := 18) (v := ?_) rfl (by kernel_rfl) (by kernel_rfl) (by kernel_rfl) (fun _ _ _ h => h) (Or.inl ⟨by rfl, ?_⟩) ⟨_, rfl⟩ ?_; rotate_left; (intro w9 hS9; obtain ⟨p9, hp9⟩ := hS9; subst hp9; go_simp; try with_reducible rfl))
  (refine wpAnyH_take (i := 19) (v := ?_) rfl (by kernel_rfl) (by kernel_rfl) (by kernel_rfl) (fun _ _ _ h => h) (Or.inl ⟨by rfl, ?_⟩) ⟨_, rfl⟩ ?_; rotate_left; (intro w9 hS9; obtain ⟨p9, hp9⟩ := hS9; subst hp9; go_simp; try with_reducible rfl))
  go_simp
  (refine wpAnyH_take (i := 20) (v := ?_) rfl (by kernel_rfl) (by kernel_rfl) (by kernel_rfl) (fun _ _ _ h => h) (Or.inl ⟨by rfl, ?_⟩) ⟨_, rfl⟩ ?_; rotate_left; (intro w9 hS9; obtain ⟨p9, hp9⟩ := hS9; subst hp9; go_simp; try with_reducible rfl))
  go_simp
  (refine wpAnyH_take (i := 21) (v := ?_) rfl (by kernel_rfl) (by kernel_rfl) (by kernel_rfl) (fun _ _ _ h => h) (Or.inl ⟨by rfl, ?_⟩) ⟨_, rfl⟩ ?_; rotate_left; (intro w9 hS9; obtain ⟨p9, hp9⟩ := hS9; subst hp9; go_simp; try with_reducible rfl))
  go_simp
  (refine wpAnyH_take (i := 22) (v := ?_) rfl (by kernel_rfl) (by kernel_rfl) (by kernel_rfl) (fun _ _ _ h => h) (Or.inl ⟨by rfl, ?_⟩) ⟨_, rfl⟩ ?_; rotate_left; (intro w9 hS9; obtain ⟨p9, hp9⟩ := hS9; subst hp9; go_simp; try with_reducible rfl))
  (refine wpAnyH_take (i := 23) (v := ?_) rfl (by kernel_rfl) (by kernel_rfl) (by kernel_rfl) (fun _ _ _ h => h) (Or.inl ⟨by rfl, ?_⟩) ⟨_, rfl⟩ ?_; rotate_left; (intro w9 hS9; obtain ⟨p9, hp9⟩ := hS9; subst hp9; go_simp; try with_reducible rfl))
  go_simp
  (refine wpAnyH_take (i := 24) (v := ?_) rfl (by kernel_rfl) (by kernel_rfl) (by kernel_rfl) (fun _ _ _ h => h) (Or.inl ⟨by rfl, ?_⟩) ⟨_, rfl⟩ ?_; rotate_left; (intro w9 hS9; obtain ⟨p9, hp9⟩ := hS9; subst hp9; go_simp; try with_reducible rfl))
  go_simp
  (refine wpAnyH_take (i := 25) (v := ?_) rfl (by kernel_rfl) (by kernel_rfl) (by kernel_rfl) (fun _ _ _ h => h) (Or.inl ⟨by rfl, ?_⟩) ⟨_, rfl⟩ ?_; rotate_left; (intro w9 hS9; obtain ⟨p9, hp9⟩ := hS9; subst hp9; go_simp; try with_reducible rfl))
  (refine wpAnyH_take (i := 26) (v := ?_) rfl (by kernel_rfl) (by kernel_rfl) (by kernel_rfl) (fun _ _ _ h => h) (Or.inl ⟨by rfl, ?_⟩) ⟨_, rfl⟩ ?_; rotate_left; (intro w9 hS9; obtain ⟨p9, hp9⟩ := hS9; subst hp9; go_simp; try with_reducible rfl))
  go_simp
  (refine wpAnyH_take (i := 27) (v := ?_) rfl (by kernel_rfl) (by kernel_rfl) (by kernel_rfl) (fun _ _ _ h => h) (Or.inl ⟨by rfl, ?_⟩) ⟨_, rfl⟩ ?_; rotate_left; (intro w9 hS9; obtain ⟨p9, hp9⟩ := hS9; subst hp9; go_simp; try with_reducible rfl))
  go_simp
  (refine wpAnyH_take (i := 28) (v := ?_) rfl (by kernel_rfl) (by kernel_rfl) (by kernel_rfl) (fun _ _ _ h => h) (Or.inl ⟨by rfl, ?_⟩) ⟨_, rfl⟩ ?_; rotate_left; (intro w9 hS9; obtain ⟨p9, hp9⟩ := hS9; subst hp9; go_simp; try with_reducible rfl))
  go_simp
  (refine wpAnyH_take (i := 29) (v := ?_) rfl (by kernel_rfl) (by kernel_rfl) (by kernel_rfl) (fun _ _ _ h => h) (Or.inl ⟨by rfl, ?_⟩) ⟨_, rfl⟩ ?_; rotate_left; (intro w9 hS9; obtain ⟨p9, hp9⟩ := hS9; subst hp9; go_simp; try with_reducible rfl))
  go_simp
  (refine wpAnyH_one (i := 30) (by kernel_rfl) rfl (fun K hK => ?_); go_simp; refine hK _ _ ⟨_, rfl⟩ ?_; clear hK K)
  (refine wpAnyH_one (i := 31) (by kernel_rfl) rfl (fun K hK => ?_); go_simp; refine hK _ _ ⟨_, rfl⟩ ?_; clear hK K)
  (refine wpAnyH_one (i := 32) (by kernel_rfl) rfl (fun K hK => ?_); go_simp; refine (awake20_walk _).mono ?_; rintro e wz ⟨rfl, hb11⟩; (obtain ⟨lw11, rfl⟩ : ∃ p : LaterOf _, wz = p.world := ⟨⟨wz, below_chain lw10.below hb11 lw10.below.size⟩, rfl⟩); refine hK _ _ ⟨lw11, rfl⟩ ?_; clear hK K)
  (refine wpAnyH_one (i := 33) (by kernel_rfl) rfl (fun K hK => ?_); go_simp; refine hK _ _ ⟨_, rfl⟩ ?_; clear hK K)
  (refine wpAnyH_one (i := 34) (by kernel_rfl) rfl (fun K hK => ?_); go_simp; refine hK _ _ ⟨_, rfl⟩ ?_; clear hK K)
  (refine wpAnyH_done (by kernel_rfl) ?_ _)
  go_wp2
  go_ret
  exact ⟨rfl, below_chain hB6 lw11.below hB6.size⟩
end Go.Proofs.Ythjoaoakadaieaa
