/- NodeUnlike: the same bytes just if the same node. -/
import Derived.Test.YtnnjgokaabaaoaaGreatDoorLaw11B
namespace Go.Proofs.YtnnjgokaabaaoaaGreatDoor
open Go.RowKit

theorem writeN_inj {n m : Nod} (hn : FitN n) (hm : FitN m) (h : writeN n = writeN m) : n = m := by
  have h1 := read_write hn
  have h2 := read_write hm
  rw [h, h2] at h1
  exact (congrArg Prod.fst h1).symm
theorem writeN_pos {n : Nod} (hn : FitN n) : 0 < (writeN n).length := by
  unfold writeN
  rw [if_pos (fitN_iff.2 hn)]
  simp
theorem ErrT.later {w : World} (h : ErrT w) (p : LaterOf w) : ErrT p.world := h.below p.below

set_option maxHeartbeats 8000000 in
set_option maxRecDepth 100000 in
theorem nunlike_walk (vp ve : Value) (n : Nod) (vp2 ve2 : Value) (m : Nod) (w : World) (hr : NodRow w n vp ve) (hr2 : NodRow w m vp2 ve2) (hT : ErrT w) :
    Calls Tryz.prog 4 #[NodV n vp ve, NodV m vp2 ve2] w fun e w' => e = .returned (.bool true) ∧ Below w.heap.size w w' := by
  obtain ⟨w1, hw1, hB1, hz, hy⟩ : ∃ w1, w1 = (w.alloc (.cells #[.int .i64 n.kind, S n.data, vp, ve] 25)).alloc (.cells #[.int .i64 m.kind, S m.data, vp2, ve2] 25) ∧ Below w.heap.size w w1 ∧ w1.heap[w.heap.size]? = some (.cells #[.int .i64 n.kind, S n.data, vp, ve] 25 (0, 0)) ∧ w1.heap[w.heap.size + 1]? = some (.cells #[.int .i64 m.kind, S m.data, vp2, ve2] 25 (0, 0)) :=
    ⟨_, rfl, ((Below.refl _ _).alloc (Nat.le_refl _) _).alloc (by simp) _, heap_alloc2_old _ _ _, heap_alloc2_new _ _ _⟩
  have HT := Lib.hid hT
  have HR := Lib.hid hr
  have HR2 := Lib.hid hr2
  have HFI := Lib.hid (fewN_iff (n := n))
  have HFJ := Lib.hid (fewN_iff (n := m))
  have HBN := Lib.hid (fun h : FewN n => h.bounds)
  have HBM := Lib.hid (fun h : FewN m => h.bounds)
  have HFN := Lib.hid (fun h : fitN n = true => fitN_iff.1 h)
  have HFM := Lib.hid (fun h : fitN m = true => fitN_iff.1 h)
  have CF := fun W h => few11_walk vp ve n W h
  have CG := fun W h => few11_walk vp2 ve2 m W h
  have CX := fun W h (hb : n.data.length ≤ 1100000 ∧ n.parts.length ≤ 1100000 ∧ n.ents.length ≤ 1100000 ∧ ∀ e ∈ n.ents, e.1.length ≤ 1100000) => rfit11_walk vp ve n W h hb.1 hb.2.1 hb.2.2.1 hb.2.2.2
  have CY := fun W h (hb : m.data.length ≤ 1100000 ∧ m.parts.length ≤ 1100000 ∧ m.ents.length ≤ 1100000 ∧ ∀ e ∈ m.ents, e.1.length ≤ 1100000) => rfit11_walk vp2 ve2 m W h hb.1 hb.2.1 hb.2.2.1 hb.2.2.2
  have HZ1 := Lib.hid hz
  have HY1 := Lib.hid hy
  have HB1 := Lib.hid hB1
  obtain ⟨⟨z0, z1, z2, z3⟩, -, -⟩ := box4 hz
  obtain ⟨⟨y0, y1, y2, y3⟩, -, -⟩ := box4 hy
  have C1 := CF w1 (HR.out.below HB1.out)
  clear hz hy hB1 hr hr2 hT CF
  cases hf1 : fewN n with
  | false =>
    rw [hf1] at C1
    go_enter Tryz.func4, Tryz.ntmps4
    go_upto_region 1 with fail
    rw [← hw1]
    clear hw1
    go_wp2_with fail
    refine C1.mono ?_
    rintro e w2 ⟨rfl, hb2⟩
    have hB2 := below_chain HB1.out hb2 HB1.out.size
    have CA := awake11_walk w2 (HT.out.below hB2)
    clear C1 z0 z1 z2 z3 y0 y1 y2 y3
    go_wp2_with fail
    refine CA.mono ?_
    rintro e wz ⟨rfl, hbz⟩
    go_wp2
    go_ret
    exact ⟨rfl, below_chain hB2 hbz hB2.size⟩
  | true =>
  rw [hf1] at C1
  have hfew := HFI.out.1 hf1
  have hbn := HBN.out hfew
  have HBN2 := Lib.hid hbn
  clear hf1 hfew hbn HFI HBN
  go_enter Tryz.func4, Tryz.ntmps4
  go_upto_region 1 with fail
  rw [← hw1]
  clear hw1
  go_wp2_with fail
  refine C1.mono ?_
  rintro e w2 ⟨rfl, hb2⟩
  have HB2 := Lib.hid (below_chain HB1.out hb2 HB1.out.size)
  have HZ2 := Lib.hid ((hb2.block _ (heap_lt HZ1.out)).trans HZ1.out)
  have HY2 := Lib.hid ((hb2.block _ (heap_lt HY1.out)).trans HY1.out)
  clear C1 hb2 z0 z1 z2 z3 y0 y1 y2 y3 HZ1 HY1
  obtain ⟨⟨z0, z1, z2, z3⟩, -, -⟩ := box4 HZ2.out
  obtain ⟨⟨y0, y1, y2, y3⟩, -, -⟩ := box4 HY2.out
  have C2 := CG w2 (HR2.out.below HB2.out)
  clear CG
  cases hf2 : fewN m with
  | false =>
    rw [hf2] at C2
    go_wp2_with fail
    refine C2.mono ?_
    rintro e w3 ⟨rfl, hb3⟩
    have hB3 := below_chain HB2.out hb3 HB2.out.size
    have CA := awake11_walk w3 (HT.out.below hB3)
    clear C2 z0 z1 z2 z3 y0 y1 y2 y3
    go_wp2_with fail
    refine CA.mono ?_
    rintro e wz ⟨rfl, hbz⟩
    go_wp2
    go_ret
    exact ⟨rfl, below_chain hB3 hbz hB3.size⟩
  | true =>
  rw [hf2] at C2
  have hfew2 := HFJ.out.1 hf2
  have hbm := HBM.out hfew2
  have HBM2 := Lib.hid hbm
  clear hf2 hfew2 hbm HFJ HBM
  go_wp2_with fail
  refine C2.mono ?_
  rintro e w3 ⟨rfl, hb3⟩
  have HB3 := Lib.hid (below_chain HB2.out hb3 HB2.out.size)
  have HZ3 := Lib.hid ((hb3.block _ (heap_lt HZ2.out)).trans HZ2.out)
  have HY3 := Lib.hid ((hb3.block _ (heap_lt HY2.out)).trans HY2.out)
  clear C2 hb3 z0 z1 z2 z3 y0 y1 y2 y3 HZ2 HY2
  obtain ⟨⟨z0, z1, z2, z3⟩, -, -⟩ := box4 HZ3.out
  obtain ⟨⟨y0, y1, y2, y3⟩, -, -⟩ := box4 HY3.out
  have C3 := CX w3 (HR.out.below HB3.out) HBN2.out
  clear CX
  cases hf3 : fitN n with
  | false =>
    rw [hf3] at C3
    go_wp2_with fail
    refine C3.mono ?_
    rintro e w4 ⟨rfl, hb4⟩
    have hB4 := below_chain HB3.out hb4 HB3.out.size
    have CA := awake11_walk w4 (HT.out.below hB4)
    clear C3 z0 z1 z2 z3 y0 y1 y2 y3
    go_wp2_with fail
    refine CA.mono ?_
    rintro e wz ⟨rfl, hbz⟩
    go_wp2
    go_ret
    exact ⟨rfl, below_chain hB4 hbz hB4.size⟩
  | true =>
  rw [hf3] at C3
  have hfn := HFN.out hf3
  have HF3 := Lib.hid hfn
  clear hf3 hfn HFN
  go_wp2_with fail
  refine C3.mono ?_
  rintro e w4 ⟨rfl, hb4⟩
  have HB4 := Lib.hid (below_chain HB3.out hb4 HB3.out.size)
  have HZ4 := Lib.hid ((hb4.block _ (heap_lt HZ3.out)).trans HZ3.out)
  have HY4 := Lib.hid ((hb4.block _ (heap_lt HY3.out)).trans HY3.out)
  clear C3 hb4 z0 z1 z2 z3 y0 y1 y2 y3 HZ3 HY3
  obtain ⟨⟨z0, z1, z2, z3⟩, -, -⟩ := box4 HZ4.out
  obtain ⟨⟨y0, y1, y2, y3⟩, -, -⟩ := box4 HY4.out
  have C4 := CY w4 (HR2.out.below HB4.out) HBM2.out
  clear CY
  cases hf4 : fitN m with
  | false =>
    rw [hf4] at C4
    go_wp2_with fail
    refine C4.mono ?_
    rintro e w5 ⟨rfl, hb5⟩
    have hB5 := below_chain HB4.out hb5 HB4.out.size
    have CA := awake11_walk w5 (HT.out.below hB5)
    clear C4 z0 z1 z2 z3 y0 y1 y2 y3
    go_wp2_with fail
    refine CA.mono ?_
    rintro e wz ⟨rfl, hbz⟩
    go_wp2
    go_ret
    exact ⟨rfl, below_chain hB5 hbz hB5.size⟩
  | true =>
  rw [hf4] at C4
  have hfm := HFM.out hf4
  have HF4 := Lib.hid hfm
  clear hf4 hfm HFM
  go_wp2_with fail
  refine C4.mono ?_
  rintro e w5 ⟨rfl, hb5⟩
  have HB5 := Lib.hid (below_chain HB4.out hb5 HB4.out.size)
  have HZ5 := Lib.hid ((hb5.block _ (heap_lt HZ4.out)).trans HZ4.out)
  have HY5 := Lib.hid ((hb5.block _ (heap_lt HY4.out)).trans HY4.out)
  clear C4 hb5 z0 z1 z2 z3 y0 y1 y2 y3 HZ4 HY4
  obtain ⟨⟨z0, z1, z2, z3⟩, -, -⟩ := box4 HZ5.out
  obtain ⟨⟨y0, y1, y2, y3⟩, -, -⟩ := box4 HY5.out
  have hbn := HBN2.out
  have hbm := HBM2.out
  have CW := fun W h => pwrite11_walk vp ve n W h hbn.1 hbn.2.1 hbn.2.2.1 hbn.2.2.2
  have CV := fun W h => pwrite11_walk vp2 ve2 m W h hbm.1 hbm.2.1 hbm.2.2.1 hbm.2.2.2
  have CK := fun W h => pkey11_walk vp ve n W h hbn.1 hbn.2.1 hbn.2.2.1 hbn.2.2.2
  have CL := fun W h => pkey11_walk vp2 ve2 m W h hbm.1 hbm.2.1 hbm.2.2.1 hbm.2.2.2
  have CS := fun W h1 h2 => rsame11_walk vp ve vp2 ve2 n m W h1 h2 hbn.2.1 hbn.2.2.1 hbm.2.1 hbm.2.2.1
  have HKN := keyN_fit HF3.out
  have HKM := keyN_fit HF4.out
  have HINJ := Lib.hid (fun h => writeN_inj HF3.out HF4.out h)
  have HEQ := Lib.hid (fun h : n = m => (show writeN n = writeN m by rw [h]))
  have HSY := Lib.hid (fun h : n = m => sameN_yes h)
  have HSN := Lib.hid (fun h : n ≠ m => sameN_no h)
  have hpos := writeN_pos HF3.out
  have hl1 := writeN_len (n := n)
  have hl2 := writeN_len (n := m)
  rw [HKN] at CK
  rw [HKM] at CL
  have CSA := fun W => rsha_walk (writeN n) W (by omega)
  have CSB := fun W => rsha_walk (writeN m) W (by omega)
  obtain ⟨A, hA⟩ : ∃ A, writeN n = A := ⟨_, rfl⟩
  obtain ⟨B, hB⟩ : ∃ B, writeN m = B := ⟨_, rfl⟩
  obtain ⟨sm, hsm⟩ : ∃ sm, sameN n m = sm := ⟨_, rfl⟩
  rw [hA] at CW CK HINJ HEQ hpos hl1 CSA
  rw [hB] at CV CL HINJ HEQ hl2 CSB
  rw [hsm] at CS HSY HSN
  clear hA hB hsm HKN HKM hbn hbm HBN2 HBM2 HF3 HF4
  have q0 := LaterOf.cell z0
  have q1 := LaterOf.cell z1
  have q2 := LaterOf.cell z2
  have q3 := LaterOf.cell z3
  have p0 := LaterOf.cell y0
  have p1 := LaterOf.cell y1
  have p2 := LaterOf.cell y2
  have p3 := LaterOf.cell y3
  have HR5 := Lib.hid (HR.out.below HB5.out)
  have HQ5 := Lib.hid (HR2.out.below HB5.out)
  have CW5 := fun p : LaterOf w5 => CW p.world (HR5.out.below p.below)
  have CV5 := fun p : LaterOf w5 => CV p.world (HQ5.out.below p.below)
  clear z0 z1 z2 z3 y0 y1 y2 y3 CW CV
  go_upto_region 3 with fail
  (refine wp_region_later (by kernel_rfl) (by kernel_rfl) ?_; (repeat (go_big_quiet_step (first | (go_at_call 10; with_reducible exact LaterOf.call _ (CW5 _)) | (go_at_call 10; with_reducible exact LaterOf.call _ (CV5 _))))); refine wpQuiet_nil ?_; intro _ hw1; obtain ⟨lw, hw2⟩ := hw1; subst hw2)
  clear CW5 CV5 q0 q1 q2 q3 p0 p1 p2 p3
  have HB6 := Lib.hid (below_chain HB5.out lw.below HB5.out.size)
  have HZ6 := Lib.hid ((lw.below.block _ (heap_lt HZ5.out)).trans HZ5.out)
  have HY6 := Lib.hid ((lw.below.block _ (heap_lt HY5.out)).trans HY5.out)
  clear HZ5 HY5
  generalize lw.world = w6 at *
  clear lw
  by_cases hnm : n = m
  · obtain rfl : A = B := HEQ.out hnm
    have hs := HSY.out hnm
    subst hs
    have hpos' : (0 : Int) < (A.length : Int) := by omega
    have hne : ¬ A = [] := by intro h; rw [h] at hpos; simp at hpos
    clear hnm HEQ HINJ HSY HSN CSA CSB hl1 hl2
    obtain ⟨⟨z0, z1, z2, z3⟩, -, -⟩ := box4 HZ6.out
    obtain ⟨⟨y0, y1, y2, y3⟩, -, -⟩ := box4 HY6.out
    have HBW := HB6
    obtain ⟨ww, rfl⟩ : ∃ ww, ww = w6 := ⟨_, rfl⟩
    have q0 := LaterOf.cell z0
    have q1 := LaterOf.cell z1
    have q2 := LaterOf.cell z2
    have q3 := LaterOf.cell z3
    have p0 := LaterOf.cell y0
    have p1 := LaterOf.cell y1
    have p2 := LaterOf.cell y2
    have p3 := LaterOf.cell y3
    have HRW := Lib.hid (HR.out.below HBW.out)
    have HQW := Lib.hid (HR2.out.below HBW.out)
    have HTW := Lib.hid (HT.out.below HBW.out)
    have CKW := fun p : LaterOf ww => CK p.world (HRW.out.below p.below)
    have CLW := fun p : LaterOf ww => CL p.world (HQW.out.below p.below)
    have CSW := fun p : LaterOf ww => CS p.world (HRW.out.below p.below) (HQW.out.below p.below)
    have CAW := fun p : LaterOf ww => awake11_walk p.world (HTW.out.below p.below)
    clear z0 z1 z2 z3 y0 y1 y2 y3 CK CL CS
    go_upto_region 6 with fail
    (refine wp_region_later (by kernel_rfl) (by kernel_rfl) ?_; (repeat (go_big_quiet_step (first | (go_at_call 14; with_reducible exact LaterOf.call _ (CKW _)) | (go_at_call 14; with_reducible exact LaterOf.call _ (CLW _)) | (go_at_call 12; with_reducible exact LaterOf.call _ (CSW _)) | (go_at_call 8; with_reducible exact LaterOf.call _ (CAW _))))); refine wpQuiet_nil ?_; intro _ hw1; obtain ⟨lw, hw2⟩ := hw1; subst hw2)
    go_wp2
    go_ret
    exact ⟨rfl, below_chain HBW.out lw.below HBW.out.size⟩
  · have hne : A ≠ B := fun h => hnm (HINJ.out h)
    have hs := HSN.out hnm
    subst hs
    have hab : (A == B) = false := by rw [beq_eq_false_iff_ne]; exact hne
    have hpos' : (0 : Int) < (A.length : Int) := by omega
    clear hnm HEQ HINJ HSY HSN hne
    go_wp2_with fail
    refine (CSA w6).mono ?_
    rintro e w7 ⟨rfl, hb7⟩
    have HB7 := Lib.hid (below_chain HB6.out hb7 HB6.out.size)
    have HZ7 := Lib.hid ((hb7.block _ (heap_lt HZ6.out)).trans HZ6.out)
    have HY7 := Lib.hid ((hb7.block _ (heap_lt HY6.out)).trans HY6.out)
    clear hb7 CSA HZ6 HY6
    go_wp2_with fail
    refine (CSB w7).mono ?_
    rintro e w8 ⟨rfl, hb8⟩
    have HB8 := Lib.hid (below_chain HB7.out hb8 HB7.out.size)
    have HZ8 := Lib.hid ((hb8.block _ (heap_lt HZ7.out)).trans HZ7.out)
    have HY8 := Lib.hid ((hb8.block _ (heap_lt HY7.out)).trans HY7.out)
    clear hb8 CSB HZ7 HY7
    generalize shaF A = sA at *
    generalize shaF B = sB at *
    by_cases hsab : sA = sB
    · have hse : (sA == sB) = true := by rw [beq_iff_eq]; exact hsab
      have CA := awake11_walk w8 (HT.out.below HB8.out)
      clear hsab CK CL CS
      go_wp2_with fail
      refine CA.mono ?_
      rintro e w9 ⟨rfl, hb9⟩
      have HB9 := Lib.hid (below_chain HB8.out hb9 HB8.out.size)
      clear hb9 CA
      go_wp2
      go_ret
      exact ⟨rfl, HB9.out⟩
    have hse : (sA == sB) = false := by rw [beq_eq_false_iff_ne]; exact hsab
    clear hsab
    obtain ⟨⟨z0, z1, z2, z3⟩, -, -⟩ := box4 HZ8.out
    obtain ⟨⟨y0, y1, y2, y3⟩, -, -⟩ := box4 HY8.out
    have HBW := HB8
    obtain ⟨ww, rfl⟩ : ∃ ww, ww = w8 := ⟨_, rfl⟩
    have q0 := LaterOf.cell z0
    have q1 := LaterOf.cell z1
    have q2 := LaterOf.cell z2
    have q3 := LaterOf.cell z3
    have p0 := LaterOf.cell y0
    have p1 := LaterOf.cell y1
    have p2 := LaterOf.cell y2
    have p3 := LaterOf.cell y3
    have HRW := Lib.hid (HR.out.below HBW.out)
    have HQW := Lib.hid (HR2.out.below HBW.out)
    have HTW := Lib.hid (HT.out.below HBW.out)
    have CKW := fun p : LaterOf ww => CK p.world (HRW.out.below p.below)
    have CLW := fun p : LaterOf ww => CL p.world (HQW.out.below p.below)
    have CSW := fun p : LaterOf ww => CS p.world (HRW.out.below p.below) (HQW.out.below p.below)
    have CAW := fun p : LaterOf ww => awake11_walk p.world (HTW.out.below p.below)
    clear z0 z1 z2 z3 y0 y1 y2 y3 CK CL CS
    go_upto_region 6 with fail
    (refine wp_region_later (by kernel_rfl) (by kernel_rfl) ?_; (repeat (go_big_quiet_step (first | (go_at_call 14; with_reducible exact LaterOf.call _ (CKW _)) | (go_at_call 14; with_reducible exact LaterOf.call _ (CLW _)) | (go_at_call 12; with_reducible exact LaterOf.call _ (CSW _)) | (go_at_call 8; with_reducible exact LaterOf.call _ (CAW _))))); refine wpQuiet_nil ?_; intro _ hw1; obtain ⟨lw, hw2⟩ := hw1; subst hw2)
    go_wp2
    go_ret
    exact ⟨rfl, below_chain HBW.out lw.below HBW.out.size⟩
end Go.Proofs.YtnnjgokaabaaoaaGreatDoor
