/- NodeKids: the keys that a node names. -/
import Derived.Test.YtnnjgokaabaaoaaGreatDoorJKids
import Derived.Test.YtnnjgokaabaaoaaGreatDoorFew11
import Derived.Test.YtnnjgokaabaaoaaGreatDoorAw11
import Derived.Test.YtnnjgokaabaaoaaGreatDoorJKey
namespace Go.Proofs.YtnnjgokaabaaoaaGreatDoor
open Go.RowKit

theorem upN_up : ∀ {l : List (List UInt8)}, upS l → upN l = true
  | [], _ => rfl
  | [_], _ => rfl
  | a :: b :: l, h => by
    unfold upS at h
    rw [List.pairwise_cons] at h
    have h1 : upN (b :: l) = true := upN_up h.2
    have h2 : a < b := h.1 b (by simp)
    simp [upN, h1, h2]
theorem fit5_set (l : List (List UInt8)) : fit5 (setOf l) = true := fit5_all (fun _ h => (setOf_mem.1 h).2) (upN_up (setOf_up l))
theorem nod_nil (k : Int) (d : List UInt8) (w : World) : NodRow w ⟨k, d, [], []⟩ (.slice none 0 0) (.slice none 0 0) := ⟨Row.nil _ w, Row.nil _ w⟩
theorem kidsN_nil (k : Int) (d : List UInt8) : kidsN ⟨k, d, [], []⟩ = [] := rfl
theorem FewN.total {n : Nod} (h : FewN n) : n.parts.length + n.ents.length ≤ 1100000 := by have := h.parts; have := h.ents; omega

set_option maxHeartbeats 8000000 in
set_option maxRecDepth 100000 in
theorem nkids_walk (vp ve : Value) (n : Nod) (w : World) (hr : NodRow w n vp ve) (hT : ErrT w) :
    Calls Tryz.prog 5 #[NodV n vp ve] w fun e w' => e = .returned (.bool true) ∧ Below w.heap.size w w' := by
  obtain ⟨w1, hw1, HB1, HZ1⟩ : ∃ w1, w1 = w.alloc (.cells #[.int .i64 n.kind, S n.data, vp, ve] 25) ∧ Hid (Below w.heap.size w w1) ∧ Hid (w1.heap[w.heap.size]? = some (.cells #[.int .i64 n.kind, S n.data, vp, ve] 25 (0, 0))) :=
    ⟨_, rfl, (Below.refl _ _).alloc (Nat.le_refl _) _, heap_alloc_new _ _⟩
  have HT := Lib.hid hT
  have HR := Lib.hid hr
  have HFI := Lib.hid (fewN_iff (n := n))
  have C1 := few11_walk vp ve n w1 (HR.out.below HB1.out)
  obtain ⟨va, vc, rfl⟩ := row_slice hr.parts
  obtain ⟨ua, uc, rfl⟩ := row_slice hr.ents
  obtain ⟨⟨z0, z1, z2, z3⟩, -, -⟩ := box4 HZ1.out
  clear hr hT
  cases hf1 : fewN n with
  | false =>
    rw [hf1] at C1
    clear hf1
    go_enter Tryz.func5, Tryz.ntmps5
    go_upto_region 1 with fail
    rw [← hw1]
    clear hw1
    go_wp2_with fail
    refine C1.mono ?_
    rintro e w2 ⟨rfl, hb2⟩
    have hB2 := below_chain HB1.out hb2 HB1.out.size
    have CA := awake11_walk w2 (HT.out.below hB2)
    clear C1 z0 z1 z2 z3
    go_wp2_with fail
    refine CA.mono ?_
    rintro e wz ⟨rfl, hbz⟩
    go_wp2
    go_ret
    exact ⟨rfl, below_chain hB2 hbz hB2.size⟩
  | true =>
  rw [hf1] at C1
  have HTOT := Lib.hid (HFI.out.1 hf1).total
  clear hf1 HFI
  go_enter Tryz.func5, Tryz.ntmps5
  go_upto_region 1 with fail
  rw [← hw1]
  clear hw1
  go_wp2_with fail
  refine C1.mono ?_
  rintro e w2 ⟨rfl, hb2⟩
  have HB2 := Lib.hid (below_chain HB1.out hb2 HB1.out.size)
  have HZ2 := Lib.hid ((hb2.block _ (heap_lt HZ1.out)).trans HZ1.out)
  clear C1 hb2 z0 z1 z2 z3 HZ1
  obtain ⟨⟨z0, z1, z2, z3⟩, -, -⟩ := box4 HZ2.out
  have C2 := pkids_walk _ _ n w2 (HR.out.below HB2.out) HTOT.out
  go_wp2_with fail
  refine C2.mono ?_
  rintro e w3 ⟨v3, rfl, hr3, hb3⟩
  have HB3 := Lib.hid (below_chain HB2.out hb3 HB2.out.size)
  have HZ3 := Lib.hid ((hb3.block _ (heap_lt HZ2.out)).trans HZ2.out)
  have HR3 := Lib.hid hr3
  clear C2 hb3 z0 z1 z2 z3 HZ2
  obtain ⟨⟨z0, z1, z2, z3⟩, -, -⟩ := box4 HZ3.out
  have HKL := Lib.hid (Nat.le_trans (kidsN_len n) HTOT.out)
  have C3 := rfit5_walk v3 (kidsN n) w3 HR3.out HKL.out
  rw [show fit5 (kidsN n) = true from fit5_set _] at C3
  obtain ⟨a3, c3, rfl, -, -, -⟩ := hr3
  have hkl0 : ¬ ((n.parts.length : Int) + (n.ents.length : Int) < ((kidsN n).length : Int)) := by have := kidsN_len n; omega
  have hkl : ¬ (wrap64 ((n.parts.length : Int) + (n.ents.length : Int)) < ((kidsN n).length : Int)) := by
    have h1 := kidsN_len n
    have h2 := HTOT.out
    unfold wrap64; omega
  go_wp2_with fail
  refine C3.mono ?_
  rintro e w4 ⟨rfl, hb4⟩
  have HB34 := Lib.hid hb4
  have HB4 := Lib.hid (below_chain HB3.out hb4 HB3.out.size)
  have HZ4 := Lib.hid ((hb4.block _ (heap_lt HZ3.out)).trans HZ3.out)
  clear C3 hb4 z0 z1 z2 z3 HZ3
  obtain ⟨⟨z0, z1, z2, z3⟩, -, -⟩ := box4 HZ4.out
  have hpl : n.parts.length ≤ 1100000 := by have := HTOT.out; omega
  have hel : n.ents.length ≤ 1100000 := by have := HTOT.out; omega
  go_wp2
  go_loopw [32] (fun i wr => ∃ k : Nat, k ≤ n.parts.length ∧ i = .int .i64 k ∧ Below w.heap.size w wr ∧ Below w4.heap.size w4 wr) (fun i _ => n.parts.length - (intOf i).toNat)
  case atStart => exact ⟨0, Nat.zero_le _, rfl, HB4.out, Below.refl _ _⟩
  case round =>
    obtain ⟨k, hk, rfl, hbb, hb4⟩ := hrel
    have HBB := Lib.hid hbb
    have HB4 := Lib.hid hb4
    by_cases hlt : k < n.parts.length
    · have hlt' : (k : Int) < (n.parts.length : Int) := by omega
      obtain ⟨a0, c0, hv, -, -, hx⟩ := HR.out.parts
      obtain ⟨g1, g2⟩ : va = a0 ∧ vc = c0 := by cases hv; exact ⟨rfl, rfl⟩
      subst g1 g2
      clear hv
      rcases hx with hx | ⟨b, o, rfl, hx⟩
      · exfalso; rw [hx] at hlt; simp at hlt
      obtain ⟨hc1, hc2⟩ := prt_cells hx hlt
      replace hc1 := cell_below hbb hc1
      replace hc2 := cell_below hbb hc2
      have HMEM := Lib.hid (kidsN_part (List.getElem_mem hlt))
      clear hx hbb hb4
      generalize n.parts[k] = y at *
      obtain ⟨key, sz⟩ := y
      simp only at hc1 hc2 HMEM
      obtain ⟨wq, hwq, HBQ, HZQ⟩ : ∃ wq, wq = wr.alloc (.cells #[S key, .int .i64 sz] 39) ∧ Hid (Below wr.heap.size wr wq) ∧ Hid (wq.heap[wr.heap.size]? = some (.cells #[S key, .int .i64 sz] 39 (0, 0))) :=
        ⟨_, rfl, (Below.refl _ _).alloc (Nat.le_refl _) _, heap_alloc_new _ _⟩
      have CH := fun p : LaterOf wq => rhas_walk (.slice a3 (kidsN n).length c3) (kidsN n) key p.world (HR3.out.below (below_chain (below_chain (below_chain HB34.out HB4.out HB34.out.size) HBQ.out (below_chain HB34.out HB4.out HB34.out.size).size) p.below (below_chain (below_chain HB34.out HB4.out HB34.out.size) HBQ.out (below_chain HB34.out HB4.out HB34.out.size).size).size)) HKL.out
      obtain ⟨⟨f0, f1⟩, -, -⟩ := box2 HZQ.out
      have q0 := LaterOf.cell f0
      clear f0 f1
      have HBB2 := Lib.hid (below_chain HBB.out HBQ.out HBB.out.size)
      have HB42 := Lib.hid (below_chain HB4.out HBQ.out HB4.out.size)
      clear HBQ HZQ HBB HB4
      by_cases hkk : key.length = 32
      · have hq : ((key.length : Int) == 32) = true := by rw [beq_iff_eq]; omega
        rw [decide_eq_true (HMEM.out.2 hkk)] at CH
        clear hkk HMEM
        go_upto_region 9 with fail
        rw [← hwq]
        clear hwq hc1 hc2
        (refine wp_region_later (by kernel_rfl) (by kernel_rfl) ?_; (repeat (go_big_quiet_step ((go_at_call 18; with_reducible exact LaterOf.call _ (CH _))))); refine wpQuiet_nil ?_; intro _ hw1; obtain ⟨lw, hw2⟩ := hw1; subst hw2)
        have HBB3 := Lib.hid (below_chain HBB2.out lw.below HBB2.out.size)
        have HB43 := Lib.hid (below_chain HB42.out lw.below HB42.out.size)
        clear q0 CH
        go_wp2
        go_roundw
        case rel => exact ⟨k + 1, by omega, by go_num, HBB3.out, HB43.out⟩
        case measure => simp [intOf]; omega
      · have hq : ((key.length : Int) == 32) = false := by rw [beq_eq_false_iff_ne]; omega
        rw [decide_eq_false (fun h => hkk (HMEM.out.1 h))] at CH
        clear hkk HMEM
        go_upto_region 9 with fail
        rw [← hwq]
        clear hwq hc1 hc2
        (refine wp_region_later (by kernel_rfl) (by kernel_rfl) ?_; (repeat (go_big_quiet_step ((go_at_call 18; with_reducible exact LaterOf.call _ (CH _))))); refine wpQuiet_nil ?_; intro _ hw1; obtain ⟨lw, hw2⟩ := hw1; subst hw2)
        have HBB3 := Lib.hid (below_chain HBB2.out lw.below HBB2.out.size)
        have HB43 := Lib.hid (below_chain HB42.out lw.below HB42.out.size)
        clear q0 CH
        go_wp2
        go_roundw
        case rel => exact ⟨k + 1, by omega, by go_num, HBB3.out, HB43.out⟩
        case measure => simp [intOf]; omega
    · have hlt' : ¬ (k : Int) < (n.parts.length : Int) := by omega
      clear hbb
      obtain ⟨⟨y0, y1, y2, y3⟩, -, -⟩ := box4 ((hb4.block _ (heap_lt HZ4.out)).trans HZ4.out)
      clear hb4
      have HBB0 := HBB
      have HB40 := HB4
      clear z0 z1 z2 z3
      go_wp2
      go_loopw [49] (fun i wr => ∃ k : Nat, k ≤ n.ents.length ∧ i = .int .i64 k ∧ Below w.heap.size w wr ∧ Below w4.heap.size w4 wr) (fun i _ => n.ents.length - (intOf i).toNat)
      case atStart => exact ⟨0, Nat.zero_le _, rfl, HBB0.out, HB40.out⟩
      case round =>
        obtain ⟨k, hk, rfl, hbb, hb4⟩ := hrel
        have HBB := Lib.hid hbb
        have HB4 := Lib.hid hb4
        by_cases hlt : k < n.ents.length
        · have hlt' : (k : Int) < (n.ents.length : Int) := by omega
          obtain ⟨a0, c0, hv, -, -, hx⟩ := HR.out.ents
          obtain ⟨g1, g2⟩ : ua = a0 ∧ uc = c0 := by cases hv; exact ⟨rfl, rfl⟩
          subst g1 g2
          clear hv
          rcases hx with hx | ⟨b, o, rfl, hx⟩
          · exfalso; rw [hx] at hlt; simp at hlt
          obtain ⟨hc1, hc2, hc3, hc4⟩ := ent_cells hx hlt
          replace hc1 := cell_below hbb hc1
          replace hc2 := cell_below hbb hc2
          replace hc3 := cell_below hbb hc3
          replace hc4 := cell_below hbb hc4
          have HMEM := Lib.hid (kidsN_ent (List.getElem_mem hlt))
          clear hx hbb hb4
          generalize n.ents[k] = y at *
          obtain ⟨nm, ek, ex, key⟩ := y
          simp only at hc1 hc2 hc3 hc4 HMEM
          obtain ⟨wq, hwq, HBQ, HZQ⟩ : ∃ wq, wq = wr.alloc (.cells #[S nm, .int .i64 ek, .bool ex, S key] 42) ∧ Hid (Below wr.heap.size wr wq) ∧ Hid (wq.heap[wr.heap.size]? = some (.cells #[S nm, .int .i64 ek, .bool ex, S key] 42 (0, 0))) :=
            ⟨_, rfl, (Below.refl _ _).alloc (Nat.le_refl _) _, heap_alloc_new _ _⟩
          have CH := fun p : LaterOf wq => rhas_walk (.slice a3 (kidsN n).length c3) (kidsN n) key p.world (HR3.out.below (below_chain (below_chain (below_chain HB34.out HB4.out HB34.out.size) HBQ.out (below_chain HB34.out HB4.out HB34.out.size).size) p.below (below_chain (below_chain HB34.out HB4.out HB34.out.size) HBQ.out (below_chain HB34.out HB4.out HB34.out.size).size).size)) HKL.out
          obtain ⟨⟨f0, f1, f2, f3⟩, -, -⟩ := box4 HZQ.out
          have q0 := LaterOf.cell f3
          clear f0 f1 f2 f3
          have HBB2 := Lib.hid (below_chain HBB.out HBQ.out HBB.out.size)
          have HB42 := Lib.hid (below_chain HB4.out HBQ.out HB4.out.size)
          clear HBQ HZQ HBB HB4
          by_cases hkk : key.length = 32
          · have hq : ((key.length : Int) == 32) = true := by rw [beq_iff_eq]; omega
            rw [decide_eq_true (HMEM.out.2 hkk)] at CH
            clear hkk HMEM
            go_upto_region 15 with fail
            rw [← hwq]
            clear hwq hc1 hc2 hc3 hc4
            (refine wp_region_later (by kernel_rfl) (by kernel_rfl) ?_; (repeat (go_big_quiet_step ((go_at_call 18; with_reducible exact LaterOf.call _ (CH _))))); refine wpQuiet_nil ?_; intro _ hw1; obtain ⟨lw, hw2⟩ := hw1; subst hw2)
            have HBB3 := Lib.hid (below_chain HBB2.out lw.below HBB2.out.size)
            have HB43 := Lib.hid (below_chain HB42.out lw.below HB42.out.size)
            clear q0 CH
            go_wp2
            go_roundw
            case rel => exact ⟨k + 1, by omega, by go_num, HBB3.out, HB43.out⟩
            case measure => simp [intOf]; omega
          · have hq : ((key.length : Int) == 32) = false := by rw [beq_eq_false_iff_ne]; omega
            rw [decide_eq_false (fun h => hkk (HMEM.out.1 h))] at CH
            clear hkk HMEM
            go_upto_region 15 with fail
            rw [← hwq]
            clear hwq hc1 hc2 hc3 hc4
            (refine wp_region_later (by kernel_rfl) (by kernel_rfl) ?_; (repeat (go_big_quiet_step ((go_at_call 18; with_reducible exact LaterOf.call _ (CH _))))); refine wpQuiet_nil ?_; intro _ hw1; obtain ⟨lw, hw2⟩ := hw1; subst hw2)
            have HBB3 := Lib.hid (below_chain HBB2.out lw.below HBB2.out.size)
            have HB43 := Lib.hid (below_chain HB42.out lw.below HB42.out.size)
            clear q0 CH
            go_wp2
            go_roundw
            case rel => exact ⟨k + 1, by omega, by go_num, HBB3.out, HB43.out⟩
            case measure => simp [intOf]; omega
        · have hlt' : ¬ (k : Int) < (n.ents.length : Int) := by omega
          clear hbb
          obtain ⟨⟨y0, y1, y2, y3⟩, -, -⟩ := box4 ((hb4.block _ (heap_lt HZ4.out)).trans HZ4.out)
          clear hb4
          have CN := pkids_walk (.slice none 0 0) (.slice none 0 0) ⟨1, n.data, [], []⟩ wr (nod_nil _ _ _) (by simp)
          rw [kidsN_nil] at CN
          go_wp2_with fail
          refine CN.mono ?_
          rintro e w6 ⟨v6, rfl, hr6, hb6⟩
          have hB6 := below_chain HBB.out hb6 HBB.out.size
          have CA := awake11_walk w6 (HT.out.below hB6)
          obtain ⟨a6, c6, rfl, -, -, -⟩ := hr6
          clear CN y0 y1 y2 y3
          go_wp2_with fail
          refine CA.mono ?_
          rintro e wz ⟨rfl, hbz⟩
          go_wp2
          go_ret
          exact ⟨rfl, below_chain hB6 hbz hB6.size⟩
end Go.Proofs.YtnnjgokaabaaoaaGreatDoor
