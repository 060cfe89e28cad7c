/- DiskMoves: a file that has another name, a file that was taken away. -/
import Derived.Test.YthjoaoakadaieaaLaw15L
import Derived.Test.YthjoaoakadaieaaPRename
import Derived.Test.YthjoaoakadaieaaMovePlain
namespace Go.Proofs.Ythjoaoakadaieaa
open Go.RowKit

set_option maxHeartbeats 16000000 in
set_option maxRecDepth 100000 in
theorem moves_walk (v : Value) (off : Bool) (fuse : Int) (l : List DF) (n m : List UInt8) (w : World) (hr : FilesR w v l) :
    Calls Try.prog 8 #[DiskV v off fuse, S n, S m] w fun e w' => e = .returned (.bool true) ∧ Below w.heap.size w w' := by
  have hb0 : Below w.heap.size w (w.alloc (DCells v off fuse)) := (Below.refl _ _).alloc (Nat.le_refl _) _
  have hx0 := heap_alloc_new w (DCells v off fuse)
  have C := few_walk v off fuse l (w.alloc (DCells v off fuse)) (hr.below hb0)
  obtain ⟨a, c, rfl, hc, hcm, hxl⟩ := hr.1
  have HXL := Lib.hid hxl
  clear hxl
  go_enter Try.func8, Try.ntmps8
  go_wp2_with fail
  refine C.mono ?_
  rintro e w1 ⟨b, rfl, hfew, hb1⟩
  have hB1 := below_chain hb0 hb1 hb0.size
  have hx1 := box_kept' hb1 hx0
  have hr1 := hr.below hB1
  clear C hx0 hb0 hb1
  cases b with
  | false => (have CA := awake15_walk w1; go_wp2_with fail; refine CA.mono ?_; rintro e wy ⟨rfl, hby⟩; have hBy := below_chain hB1 hby (Below.size hB1); go_wp2; go_ret; exact ⟨rfl, hBy⟩)
  | true =>
  have hF := hfew rfl
  have HF := Lib.hid hF
  have hl12 := hF.1
  obtain ⟨y0, y1, y2⟩ := dbox_cells hx1
  clear hF hfew
  by_cases g0 : 100 < n.length
  · have g0' : (100 : Int) < (n.length : Int) := by omega
    (have CA := awake15_walk w1; go_wp2_with fail; refine CA.mono ?_; rintro e wy ⟨rfl, hby⟩; have hBy := below_chain hB1 hby (Below.size hB1); go_wp2; go_ret; exact ⟨rfl, hBy⟩)
  have g0' : ¬ (100 : Int) < (n.length : Int) := by omega
  by_cases g1 : 100 < m.length
  · have g1' : (100 : Int) < (m.length : Int) := by omega
    (have CA := awake15_walk w1; go_wp2_with fail; refine CA.mono ?_; rintro e wy ⟨rfl, hby⟩; have hBy := below_chain hB1 hby (Below.size hB1); go_wp2; go_ret; exact ⟨rfl, hBy⟩)
  have g1' : ¬ (100 : Int) < (m.length : Int) := by omega
  have C2 := rfit15_walk (.slice a l.length c) off fuse l w1 hr1 (by omega) (few_short HF.out)
  obtain ⟨q, hq⟩ : ∃ q, fitD (los l, off, fuse) = q := ⟨_, rfl⟩
  rw [hq] at C2
  cases q with
  | false =>
    go_wp2_with fail
    refine C2.mono ?_
    rintro e w2 ⟨rfl, hb2⟩
    have hB2 := below_chain hB1 hb2 hB1.size
    (have CA := awake15_walk w2; go_wp2_with fail; refine CA.mono ?_; rintro e wy ⟨rfl, hby⟩; have hBy := below_chain hB2 hby (Below.size hB2); go_wp2; go_ret; exact ⟨rfl, hBy⟩)
  | true =>
  go_wp2_with fail
  refine C2.mono ?_
  rintro e w2 ⟨rfl, hb2⟩
  have hB2 := below_chain hB1 hb2 hB1.size
  have hx2 := box_kept' hb2 hx1
  have hr2 := hr1.below hb2
  have FL := fit_get hq
  have FP := fitP_of hq
  clear C2 y0 y1 y2 hx1 hr1 hb2
  obtain ⟨y0, y1, y2⟩ := dbox_cells hx2
  have C3 := prename_walk (fun _ => False) (.slice a l.length c) off fuse l n m w2 (fun k h => h.elim) (FilesZ.of hr2) (by omega) FL.up FL.f1 FL.f2 (by omega)
  go_wp2_with fail
  refine C3.mono ?_
  rintro e w3 ⟨v3, o3, f3, l3, e3, rfl, hz3, hres3, hb3⟩
  have hB3 := below_chain hB2 hb3 hB2.size
  have hx3 := box_kept' hb3 hx2
  have hr3 := hr2.below hb3
  have hr3c := hz3.here
  have F3 := fit_get (l := l3) (off := o3) (fuse := f3) (by have h := (renameD_fit (n := n) (m := m) FP).fit; rw [hres3] at h; exact h)
  have hrv := hr3c
  obtain ⟨⟨a3, c3, rfl, _⟩, _⟩ := hrv
  obtain ⟨w4, hw4, hb4, hx4c⟩ : ∃ w4, w4 = w3.alloc (DCells (.slice a3 l3.length c3) o3 f3) ∧ Below w3.heap.size w3 w4 ∧ w4.heap[w3.heap.size]? = some (DCells (.slice a3 l3.length c3) o3 f3) := ⟨_, rfl, (Below.refl _ _).alloc (Nat.le_refl _) _, heap_alloc_new _ _⟩
  have hB4 := below_chain hB3 hb4 hB3.size
  have hx4 := box_kept' hb4 hx3
  have hr4 := hr3.below hb4
  have hr4c := hr3c.below hb4
  have yq0 := fun X => cell_old (dbox_cells hx3).1 X
  have yq1 := fun X => cell_old (dbox_cells hx3).2.1 X
  have yq2 := fun X => cell_old (dbox_cells hx3).2.2 X
  clear C3 y0 y1 y2 hz3 hx3 hr3 hr3c hx2 hr2 hb3 hb4
  obtain ⟨y0, y1, y2⟩ := dbox_cells hx4
  have C4 := premove_walk (fun _ => False) (.slice a l.length c) off fuse l n w4 (fun k h => h.elim) (FilesZ.of hr4) (by omega) FL.up FL.f1 FL.f2
  go_wp2_with fail
  rw [← hw4]
  clear hw4 yq0 yq1 yq2
  try go_wp2_with fail
  refine C4.mono ?_
  rintro e w5 ⟨v5, o5, f5, l5, e5, rfl, hz5, hres5, hb5⟩
  have hB5 := below_chain hB4 hb5 hB4.size
  have hx5 := box_kept' hb5 hx4
  have hx5c := box_kept' hb5 hx4c
  have hr5 := hr4.below hb5
  have hr5c := hr4c.below hb5
  have hr5g := hz5.here
  have F5 := fit_get (l := l5) (off := o5) (fuse := f5) (by have h := (removeD_fit (n := n) FP).fit; rw [hres5] at h; exact h)
  have hrv := hr5g
  obtain ⟨⟨a5, c5, rfl, _⟩, _⟩ := hrv
  obtain ⟨w6, hw6, hb6, hx6g⟩ : ∃ w6, w6 = w5.alloc (DCells (.slice a5 l5.length c5) o5 f5) ∧ Below w5.heap.size w5 w6 ∧ w6.heap[w5.heap.size]? = some (DCells (.slice a5 l5.length c5) o5 f5) := ⟨_, rfl, (Below.refl _ _).alloc (Nat.le_refl _) _, heap_alloc_new _ _⟩
  have hB6 := below_chain hB5 hb6 hB5.size
  have hx6 := box_kept' hb6 hx5
  have hx6c := box_kept' hb6 hx5c
  have hr6 := hr5.below hb6
  have hr6c := hr5c.below hb6
  have hr6g := hr5g.below hb6
  have yq0 := fun X => cell_old (dbox_cells hx5).1 X
  have yq1 := fun X => cell_old (dbox_cells hx5).2.1 X
  have yq2 := fun X => cell_old (dbox_cells hx5).2.2 X
  clear C4 y0 y1 y2 hz5 hx5 hx5c hr5 hr5c hr5g hx4 hx4c hr4 hr4c hb5 hb6
  by_cases he : e3 = 0
  case neg =>
    have he' : (e3 != 0) = true := by rw [bne_iff_ne]; exact he
    go_wp2_with fail
    rw [← hw6]
    clear hw6
    (have CA := awake15_walk w6; go_wp2_with fail; refine CA.mono ?_; rintro e wy ⟨rfl, hby⟩; have hBy := below_chain hB6 hby (Below.size hB6); go_wp2; go_ret; exact ⟨rfl, hBy⟩)
  by_cases hf : e5 = 0
  case neg =>
    have he' : (e3 != 0) = false := by rw [bne_eq_false_iff_eq]; exact he
    have hf' : (e5 != 0) = true := by rw [bne_iff_ne]; exact hf
    go_wp2_with fail
    rw [← hw6]
    clear hw6
    (have CA := awake15_walk w6; go_wp2_with fail; refine CA.mono ?_; rintro e wy ⟨rfl, hby⟩; have hBy := below_chain hB6 hby (Below.size hB6); go_wp2; go_ret; exact ⟨rfl, hBy⟩)
  subst he hf
  have M := move_reads hres3 hres5
  obtain ⟨s, hs1, hs2⟩ := M.was
  have HM := Lib.hid M
  clear M
  obtain ⟨y0, y1, y2⟩ := dbox_cells hx6
  have C5 := pread15_walk (.slice a l.length c) off fuse l n w6 hr6 (by omega) FL.up FL.ok
  rw [hs1] at C5
  go_wp2_with fail
  rw [← hw6]
  clear hw6 yq0 yq1 yq2
  try go_wp2_with fail
  refine C5.mono ?_
  rintro e w7 ⟨rfl, hb7⟩
  have hB7 := below_chain hB6 hb7 hB6.size
  have hx7 := box_kept' hb7 hx6
  have hx7c := box_kept' hb7 hx6c
  have hx7g := box_kept' hb7 hx6g
  have hr7 := hr6.below hb7
  have hr7c := hr6c.below hb7
  have hr7g := hr6g.below hb7
  clear C5 y0 y1 y2 hx6 hx6c hx6g hr6 hr6c hr6g hb7
  obtain ⟨y0, y1, y2⟩ := dbox_cells hx7c
  have C6 := pread15_walk (.slice a3 l3.length c3) o3 f3 l3 m w7 hr7c (by have := F3.len; omega) F3.up F3.ok
  rw [hs2] at C6
  go_wp2_with fail
  refine C6.mono ?_
  rintro e w8 ⟨rfl, hb8⟩
  have hB8 := below_chain hB7 hb8 hB7.size
  have hx8 := box_kept' hb8 hx7
  have hx8c := box_kept' hb8 hx7c
  have hx8g := box_kept' hb8 hx7g
  have hr8 := hr7.below hb8
  have hr8c := hr7c.below hb8
  have hr8g := hr7g.below hb8
  clear C6 y0 y1 y2 hx7 hx7c hx7g hr7 hr7c hr7g hb8
  obtain ⟨y0, y1, y2⟩ := dbox_cells hx8c
  have C7 := pread15_walk (.slice a3 l3.length c3) o3 f3 l3 n w8 hr8c (by have := F3.len; omega) F3.up F3.ok
  have hst := HM.out.still
  obtain ⟨⟨x7, z7⟩, h7⟩ : ∃ r, readD (los l3, o3, f3) n = r := ⟨_, rfl⟩
  obtain ⟨z, hz⟩ : ∃ z, (n == m) = z := ⟨_, rfl⟩
  have HNM := Lib.hid hz
  rw [h7, hz] at hst
  rw [h7] at C7
  simp only at hst
  subst hst
  clear h7 hz
  go_wp2_with fail
  refine C7.mono ?_
  rintro e w9 ⟨rfl, hb9⟩
  have hB9 := below_chain hB8 hb9 hB8.size
  have hx9 := box_kept' hb9 hx8
  have hx9c := box_kept' hb9 hx8c
  have hx9g := box_kept' hb9 hx8g
  have hr9 := hr8.below hb9
  have hr9c := hr8c.below hb9
  have hr9g := hr8g.below hb9
  clear C7 y0 y1 y2 hx8 hx8c hx8g hr8 hr8c hr8g hb9
  obtain ⟨y0, y1, y2⟩ := dbox_cells hx9g
  have C8 := pread15_walk (.slice a5 l5.length c5) o5 f5 l5 n w9 hr9g (by have := F5.len; omega) F5.up F5.ok
  have hgo := HM.out.gone
  obtain ⟨⟨x8, z8⟩, h8⟩ : ∃ r, readD (los l5, o5, f5) n = r := ⟨_, rfl⟩
  rw [h8] at C8 hgo
  simp only at hgo
  subst hgo
  clear h8
  have hss : (s == s) = true := by simp
  have hnn : (z7 == z7) = true := by simp
  go_wp2_with fail
  refine C8.mono ?_
  rintro e w10 ⟨rfl, hb10⟩
  have hB10 := below_chain hB9 hb10 hB9.size
  have hx10 := box_kept' hb10 hx9
  have hx10c := box_kept' hb10 hx9c
  have hx10g := box_kept' hb10 hx9g
  have hr10 := hr9.below hb10
  have hr10c := hr9c.below hb10
  have hr10g := hr9g.below hb10
  clear C8 y0 y1 y2 hx9 hx9c hx9g hr9 hr9c hr9g hb10
  obtain ⟨y0, y1, y2⟩ := dbox_cells hx10
  go_wp2
  clear y0 y1 y2
  go_loopw [93] (fun i wq => ∃ k : Nat, k ≤ l.length ∧ i = .int .i64 k ∧ Below w10.heap.size w10 wq) (fun i _ => l.length - (intOf i).toNat)
  case atStart => exact ⟨0, by omega, rfl, Below.refl _ _⟩
  case round =>
    obtain ⟨k, hk, rfl, hB⟩ := hrel
    have hBQ := below_chain hB10 hB hB10.size
    by_cases h1 : k < l.length
    · have h1' : (k : Int) < (l.length : Int) := by omega
      have hxd := box_kept' hB hx10
      have hxc := box_kept' hB hx10c
      have hxg := box_kept' hB hx10g
      have hrq := hr10.below hB
      have hrqc := hr10c.below hB
      have hrqg := hr10g.below hB
      have hx := HXL.out
      rcases hx with hx | ⟨b, o, rfl, hx⟩
      · exfalso; rw [hx] at h1; simp at h1
      obtain ⟨hp1, hp2, hp3⟩ := df_cells hx h1
      have hc1 := cell_below hBQ hp1
      have hc2 := cell_below hBQ hp2
      have hc3 := cell_below hBQ hp3
      have hop := hrq.2 l[k] (by simp)
      clear hx hp1 hp2 hp3
      generalize l[k] = y at *
      obtain ⟨fn, fd, fv, fo⟩ := y
      simp only at hc1 hc2 hc3 hop
      obtain ⟨ao, co, rfl, _⟩ := hop
      obtain ⟨⟨xo, yo⟩, hxo⟩ : ∃ r, readD (los l, off, fuse) fn = r := ⟨_, rfl⟩
      obtain ⟨⟨xc, yc⟩, hxc2⟩ : ∃ r, readD (los l3, o3, f3) fn = r := ⟨_, rfl⟩
      obtain ⟨⟨xg, yg⟩, hxg2⟩ : ∃ r, readD (los l5, o5, f5) fn = r := ⟨_, rfl⟩
      have hcs : (fn == n) = true ∨ ((fn == n) = false ∧ (fn == m) = true ∧ (xo == xg) = true) ∨ ((fn == n) = false ∧ (fn == m) = false ∧ (xo == xc) = true ∧ (xo == xg) = true) := by
        by_cases q1 : fn = n
        · exact .inl (by rw [beq_iff_eq]; exact q1)
        · obtain ⟨h2, h3⟩ := HM.out.other fn q1
          rw [hxo, hxg2] at h2
          have q1' : (fn == n) = false := by rw [beq_eq_false_iff_ne]; exact q1
          have e2 : (xo == xg) = true := by rw [beq_iff_eq]; exact (congrArg Prod.fst h2).symm
          by_cases q2 : fn = m
          · exact .inr (.inl ⟨q1', by rw [beq_iff_eq]; exact q2, e2⟩)
          · have h4 := h3 q2
            rw [hxo, hxc2] at h4
            exact .inr (.inr ⟨q1', by rw [beq_eq_false_iff_ne]; exact q2, by rw [beq_iff_eq]; exact (congrArg Prod.fst h4).symm, e2⟩)
      obtain ⟨wA, hwA, hBA, hxA⟩ : ∃ wA, wA = wr.alloc (.cells #[S fn, S fd, .slice ao fo.length co] 50) ∧ Below wr.heap.size wr wA ∧ wA.heap[wr.heap.size]? = some (.cells #[S fn, S fd, .slice ao fo.length co] 50 (0, 0)) := ⟨_, rfl, (Below.refl _ _).alloc (Nat.le_refl _) _, heap_alloc_new _ _⟩
      obtain ⟨u0, u1, u2⟩ := dbox_cells hxd
      have y0 := fun X => cell_old u0 X
      have y1 := fun X => cell_old u1 X
      have y2 := fun X => cell_old u2 X
      have C5 := pread15_walk (.slice (some ⟨b, o, none⟩) l.length c) off fuse l fn wA (hrq.below hBA) (by omega) FL.up FL.ok
      rw [hxo] at C5
      have hBA' := below_chain hB hBA hB.size
      go_wp2_with fail
      rw [← hwA]
      clear hwA y0 y1 y2 hc1 hc2 hc3
      try go_wp2_with fail
      refine C5.mono ?_
      rintro e w11 ⟨rfl, hb11⟩
      have hB11 := below_chain hBA' hb11 hBA'.size
      have hxA1 := box_kept' hb11 hxA
      have ha1 := heap_cell hxA1 (j := 0) (v := S fn) rfl
      have hxc1 := box_kept' hb11 (box_kept' hBA hxc)
      have hxg1 := box_kept' hb11 (box_kept' hBA hxg)
      have hrc1 := (hrqc.below hBA).below hb11
      have hrg1 := (hrqg.below hBA).below hb11
      obtain ⟨y0, y1, y2⟩ := dbox_cells hxc1
      have C6 := pread15_walk (.slice a3 l3.length c3) o3 f3 l3 fn w11 hrc1 (by have := F3.len; omega) F3.up F3.ok
      rw [hxc2] at C6
      clear C5 u0 u1 u2
      go_wp2_with fail
      refine C6.mono ?_
      rintro e w12 ⟨rfl, hb12⟩
      have hB12 := below_chain hB11 hb12 hB11.size
      have hxA2 := box_kept' hb12 hxA1
      clear C6 y0 y1 y2 ha1
      have ha1 := heap_cell hxA2 (j := 0) (v := S fn) rfl
      obtain ⟨y0, y1, y2⟩ := dbox_cells (box_kept' hb12 hxg1)
      have C7 := pread15_walk (.slice a5 l5.length c5) o5 f5 l5 fn w12 (hrg1.below hb12) (by have := F5.len; omega) F5.up F5.ok
      rw [hxg2] at C7
      go_wp2_with fail
      refine C7.mono ?_
      rintro e w13 ⟨rfl, hb13⟩
      have hB13 := below_chain hB12 hb13 hB12.size
      have hxA3 := box_kept' hb13 hxA2
      clear C7 y0 y1 y2 ha1
      have ha1 := heap_cell hxA3 (j := 0) (v := S fn) rfl
      rcases hcs with q1 | ⟨q1, q2, q3⟩ | ⟨q1, q2, q3, q4⟩
      all_goals
        go_wp2
        go_roundw
        case rel => exact ⟨k + 1, by omega, by go_num, hB13⟩
        case measure => simp [intOf]; omega
    · have h1' : ¬ (k : Int) < (l.length : Int) := by omega
      have hz := HNM.out
      (have CA := awake15_walk wr; go_wp2_with fail; refine CA.mono ?_; rintro e wy ⟨rfl, hby⟩; have hBy := below_chain hBQ hby (Below.size hBQ); go_wp2; go_ret; exact ⟨rfl, hBy⟩)
end Go.Proofs.Ythjoaoakadaieaa
