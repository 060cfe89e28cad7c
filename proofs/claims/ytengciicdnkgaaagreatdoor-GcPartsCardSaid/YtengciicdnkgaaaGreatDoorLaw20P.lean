/- GcParts: a collection in two parts. -/
import Derived.Test.YtengciicdnkgaaaGreatDoorJGcP
import Derived.Test.YtengciicdnkgaaaGreatDoorGcRef
import Derived.Test.YtengciicdnkgaaaGreatDoorAwake20
import Derived.Test.YtengciicdnkgaaaGreatDoorJTail
namespace Go.Proofs.YtengciicdnkgaaaGreatDoor
open Go.RowKit

theorem fit5_upP {m : List (List UInt8)} (h : fit5 m = true) : upS m := by
  unfold fit5 at h
  rw [Bool.and_eq_true] at h
  exact upN_pairs _ h.2
def doneB (on : Bool) (q : List (List UInt8)) : Bool := on && q.isEmpty
theorem doneG_walk (on : Bool) (qv mv : Value) (q : List (List UInt8)) (w : World) (hq : StrRow w qv q) (hmv : ∃ a n c, mv = .slice a n c) : Calls Tryz.prog 11 #[GcV on qv mv] w fun e w' => e = .returned (.bool (doneB on q)) ∧ Below w.heap.size w w' := by
  obtain ⟨a, c, rfl, -⟩ := hq
  obtain ⟨a2, n2, c2, rfl⟩ := hmv
  have HD := Lib.hid (show doneB on q = (on && q.isEmpty) from rfl)
  generalize doneB on q = d at *
  cases on with
  | false =>
    go_enter Tryz.func11, Tryz.ntmps11
    go_wp2
    go_ret
    exact ⟨by rw [HD.out]; rfl, (Below.refl _ _).alloc (Nat.le_refl _) _⟩
  | true =>
    cases q with
    | nil =>
      go_enter Tryz.func11, Tryz.ntmps11
      go_wp2
      go_ret
      exact ⟨by rw [HD.out]; rfl, (Below.refl _ _).alloc (Nat.le_refl _) _⟩
    | cons k q =>
      have hnz : (((k :: q).length : Int) == 0) = false := by rw [beq_eq_false_iff_ne]; simp; omega
      generalize (k :: q).length = QL at *
      go_enter Tryz.func11, Tryz.ntmps11
      go_wp2
      go_ret
      exact ⟨by rw [HD.out]; rfl, (Below.refl _ _).alloc (Nat.le_refl _) _⟩

set_option maxHeartbeats 8000000 in
set_option maxRecDepth 100000 in
theorem parts20_walk (on : Bool) (qv mv ov : Value) (q m : List (List UInt8)) (o : List Snp) (a b : Nat) (w : World) (hq : StrRow w qv q) (hm : StrRow w mv m) (ho : SnpRow w ov o) (hT : ErrT w) (ha : a ≤ 255) (hb : b ≤ 255) (hqb : q.length ≤ 140737488355328) (hmb : m.length ≤ 140737488355328) (hob : o.length ≤ 140737488355328) (hor : ∀ x ∈ o, x.2.length ≤ 140737488355328) :
    Calls Tryz.prog 3 #[GcV on qv mv, ov, .int .u8 a, .int .u8 b] w fun e w' => e = .returned (.bool true) ∧ Below w.heap.size w w' := by
  obtain ⟨w1, hw1, hB1, hg1⟩ : ∃ w1, w1 = w.alloc (GCells on qv mv) ∧ Below w.heap.size w w1 ∧ w1.heap[w.heap.size]? = some (GCells on qv mv) :=
    ⟨_, rfl, (Below.refl _ _).alloc (Nat.le_refl _) _, heap_alloc_new w _⟩
  have HQ := Lib.hid hq
  have HM := Lib.hid hm
  have HO := Lib.hid ho
  have HT := Lib.hid hT
  have C0 := small20_walk ov o w1 (ho.below hB1) hob hor
  obtain ⟨qa, qc, rfl, _⟩ := hq
  obtain ⟨ma, mc, rfl, _⟩ := hm
  obtain ⟨y0, y1, y2⟩ := gcells hg1
  have hwr : IntKind.i64.wrap ((q.length : Int) + (m.length : Int)) = (q.length : Int) + (m.length : Int) := by rw [IntKind.wrap_i64]; omega
  clear ho hT hor
  go_enter Tryz.func3, Tryz.ntmps3
  go_upto_region 1 with fail
  rw [← hw1]
  clear hw1
  go_wp2_with fail
  refine C0.mono ?_
  rintro e w2 ⟨b0, rfl, hsm, hb2⟩
  have hB2 := below_chain hB1 hb2 hB1.size
  have hg2 := keptG hb2 hg1
  clear C0 y0 y1 y2 hg1 hb2
  obtain ⟨y0, y1, y2⟩ := gcells hg2
  cases b0 with
  | false => (have CA := awake20_walk w2; go_wp2_with fail; refine CA.mono ?_; rintro e wy ⟨rfl, hby⟩; have hBy := below_chain hB2 hby (Below.size hB2); go_wp2; go_ret; exact ⟨rfl, hBy⟩)
  | true =>
  have HSM := Lib.hid (hsm rfl)
  clear hsm
  by_cases g0 : 200 < q.length + m.length
  · have g0' : (200 : Int) < (q.length : Int) + (m.length : Int) := by omega
    (have CA := awake20_walk w2; go_wp2_with fail; refine CA.mono ?_; rintro e wy ⟨rfl, hby⟩; have hBy := below_chain hB2 hby (Below.size hB2); go_wp2; go_ret; exact ⟨rfl, hBy⟩)
  have g0' : ¬ (200 : Int) < (q.length : Int) + (m.length : Int) := by omega
  have C := rfit20_walk on (.slice qa q.length qc) (.slice ma m.length mc) q m w2 (HQ.out.below hB2) (HM.out.below hB2) (by omega) (by omega)
  go_wp2_with fail
  refine C.mono ?_
  rintro e w3 ⟨b1, rfl, hfit, hb3⟩
  have hB3 := below_chain hB2 hb3 hB2.size
  have hg3 := keptG hb3 hg2
  clear C y0 y1 y2 hg2 hb3
  cases b1 with
  | false => (have CA := awake20_walk w3; go_wp2_with fail; refine CA.mono ?_; rintro e wy ⟨rfl, hby⟩; have hBy := below_chain hB3 hby (Below.size hB3); go_wp2; go_ret; exact ⟨rfl, hBy⟩)
  | true =>
  have HUP := Lib.hid (fit5_upP (hfit rfl))
  clear hfit
  have HB3 := Lib.hid hB3
  have HG3 := Lib.hid hg3
  obtain ⟨y0, y1, y2⟩ := gcells hg3
  have HOL := Lib.hid (show o.length ≤ 1100000 by have := HSM.out.len; omega)
  have HOU := Lib.hid (fit5_upP HSM.out.fit)
  have HRAW := Lib.hid (show ∀ x ∈ o, x.2.length ≤ 1000000 from fun x hx => by have := HSM.out.raw x hx; omega)
  have C := step_walk on (.slice qa q.length qc) (.slice ma m.length mc) ov q m o a w3 (HQ.out.below hB3) (HM.out.below hB3) (HT.out.below hB3) (HO.out.below hB3) HOL.out HOU.out HRAW.out (by omega) (by omega) (by omega) HUP.out
  have LA := stepS_len (o := o) a (q, m) HUP.out
  clear hB3 hg3 hwr
  go_wp2_with fail
  refine C.mono ?_
  rintro e w4 ⟨qx, mx, rfl, hqx, hmx, hb4⟩
  have HB4 := Lib.hid (below_chain HB3.out hb4 HB3.out.size)
  have HG4 := Lib.hid (keptG hb4 HG3.out)
  obtain ⟨X, hX⟩ : ∃ X, stepS o a (q, m) = X := ⟨_, rfl⟩
  rw [hX] at hqx hmx LA
  have HX := Lib.hid hX
  have HQX := Lib.hid hqx
  have HMX := Lib.hid hmx
  obtain ⟨xa, xc, rfl, -⟩ := hqx
  obtain ⟨xb, xd, rfl, -⟩ := hmx
  obtain ⟨LX1, LX2, LX3⟩ := LA
  have HXU := Lib.hid LX3
  clear C y0 y1 y2 hb4 hX LX3
  obtain ⟨w5, hw5, HB45, HX5⟩ : ∃ w5, w5 = w4.alloc (GCells on (.slice xa X.1.length xc) (.slice xb X.2.length xd)) ∧ Hid (Below w4.heap.size w4 w5) ∧ Hid (w5.heap[w4.heap.size]? = some (GCells on (.slice xa X.1.length xc) (.slice xb X.2.length xd))) :=
    ⟨_, rfl, (Below.refl _ _).alloc (Nat.le_refl _) _, heap_alloc_new w4 _⟩
  have HB5 := Lib.hid (below_chain HB4.out HB45.out HB4.out.size)
  have HG5 := Lib.hid (keptG HB45.out HG4.out)
  go_upto_region 4 with fail
  rw [← hw5]
  clear hw5
  obtain ⟨x0, x1, x2⟩ := gcells HX5.out
  have C := step_walk on (.slice xa X.1.length xc) (.slice xb X.2.length xd) ov X.1 X.2 o b w5 (HQX.out.below HB45.out) (HMX.out.below HB45.out) (HT.out.below HB5.out) (HO.out.below HB5.out) HOL.out HOU.out HRAW.out (by omega) (by omega) (by omega) HXU.out
  have LB := stepS_len (o := o) b X HXU.out
  rw [Prod.eta] at C
  go_wp2_with fail
  refine C.mono ?_
  rintro e w6 ⟨qy, my, rfl, hqy, hmy, hb6⟩
  have HB6 := Lib.hid (below_chain HB5.out hb6 HB5.out.size)
  have HG6 := Lib.hid (keptG hb6 HG5.out)
  have HX6 := Lib.hid (keptG hb6 HX5.out)
  have HW6 := Lib.hid (below_chain HB45.out hb6 HB45.out.size)
  obtain ⟨Y, hY⟩ : ∃ Y, stepS o b X = Y := ⟨_, rfl⟩
  rw [hY] at hqy hmy LB
  have HY := Lib.hid hY
  have HQY := Lib.hid hqy
  have HMY := Lib.hid hmy
  obtain ⟨ya, yc, rfl, -⟩ := hqy
  obtain ⟨yb, yd, rfl, -⟩ := hmy
  obtain ⟨LY1, LY2, -⟩ := LB
  clear C x0 x1 x2 hb6 hY
  obtain ⟨w7, hw7, HB67, HY7⟩ : ∃ w7, w7 = w6.alloc (GCells on (.slice ya Y.1.length yc) (.slice yb Y.2.length yd)) ∧ Hid (Below w6.heap.size w6 w7) ∧ Hid (w7.heap[w6.heap.size]? = some (GCells on (.slice ya Y.1.length yc) (.slice yb Y.2.length yd))) :=
    ⟨_, rfl, (Below.refl _ _).alloc (Nat.le_refl _) _, heap_alloc_new w6 _⟩
  have HB7 := Lib.hid (below_chain HB6.out HB67.out HB6.out.size)
  have HG7 := Lib.hid (keptG HB67.out HG6.out)
  have HX7 := Lib.hid (keptG HB67.out HX6.out)
  go_upto_region 5 with fail
  rw [← hw7]
  clear hw7
  obtain ⟨g0c, g1c, g2c⟩ := gcells HG7.out
  obtain ⟨x0, x1, x2⟩ := gcells HX7.out
  obtain ⟨z0, z1, z2⟩ := gcells HY7.out
  have m0 := LaterOf.cell g0c
  have m1 := LaterOf.cell g1c
  have m2 := LaterOf.cell g2c
  have n0 := LaterOf.cell x0
  have n1 := LaterOf.cell x1
  have n2 := LaterOf.cell x2
  have p0 := LaterOf.cell z0
  have p1 := LaterOf.cell z1
  have p2 := LaterOf.cell z2
  have hwab : IntKind.i64.wrap ((a : Int) + (b : Int)) = (a : Int) + (b : Int) := by rw [IntKind.wrap_i64]; omega
  clear g0c g1c g2c x0 x1 x2 z0 z1 z2
  (refine wp_held (by kernel_rfl) ?_; intro lw)
  (refine wpAnyH_take (i := 0) (v := ?_) rfl (by kernel_rfl) (by kernel_rfl) (by kernel_rfl) (fun _ _ _ h => h) (Or.inl ⟨by rfl, ?_⟩) ⟨_, rfl⟩ ?_; rotate_left; (intro w9 hS9; obtain ⟨p9, hp9⟩ := hS9; subst hp9; go_simp; try with_reducible rfl))
  (refine wpAnyH_take (i := 1) (v := ?_) rfl (by kernel_rfl) (by kernel_rfl) (by kernel_rfl) (fun _ _ _ h => h) (Or.inl ⟨by rfl, ?_⟩) ⟨_, rfl⟩ ?_; rotate_left; (intro w9 hS9; obtain ⟨p9, hp9⟩ := hS9; subst hp9; go_simp; try with_reducible rfl))
  (refine wpAnyH_take (i := 2) (v := ?_) rfl (by kernel_rfl) (by kernel_rfl) (by kernel_rfl) (fun _ _ _ h => h) (Or.inl ⟨by rfl, ?_⟩) ⟨_, rfl⟩ ?_; rotate_left; (intro w9 hS9; obtain ⟨p9, hp9⟩ := hS9; subst hp9; go_simp; try with_reducible rfl))
  (refine wpAnyH_take (i := 3) (v := ?_) rfl (by kernel_rfl) (by kernel_rfl) (by kernel_rfl) (fun _ _ _ h => h) (Or.inl ⟨by rfl, ?_⟩) ⟨_, rfl⟩ ?_; rotate_left; (intro w9 hS9; obtain ⟨p9, hp9⟩ := hS9; subst hp9; go_simp; try with_reducible rfl))
  (refine wpAnyH_take (i := 4) (v := ?_) rfl (by kernel_rfl) (by kernel_rfl) (by kernel_rfl) (fun _ _ _ h => h) (Or.inl ⟨by rfl, ?_⟩) ⟨_, rfl⟩ ?_; rotate_left; (intro w9 hS9; obtain ⟨p9, hp9⟩ := hS9; subst hp9; go_simp; try with_reducible rfl))
  (refine wpAnyH_take (i := 5) (v := ?_) rfl (by kernel_rfl) (by kernel_rfl) (by kernel_rfl) (fun _ _ _ h => h) (Or.inl ⟨by rfl, ?_⟩) ⟨_, rfl⟩ ?_; rotate_left; (intro w9 hS9; obtain ⟨p9, hp9⟩ := hS9; subst hp9; go_simp; try with_reducible rfl))
  (refine wpAnyH_take (i := 6) (v := ?_) rfl (by kernel_rfl) (by kernel_rfl) (by kernel_rfl) (fun _ _ _ h => h) (Or.inl ⟨by rfl, ?_⟩) ⟨_, rfl⟩ ?_; rotate_left; (intro w9 hS9; obtain ⟨p9, hp9⟩ := hS9; subst hp9; go_simp; try with_reducible rfl))
  go_simp
  have hwa : IntKind.i64.wrap (a : Int) = (a : Int) := by rw [IntKind.wrap_i64]; omega
  have hwb : IntKind.i64.wrap (b : Int) = (b : Int) := by rw [IntKind.wrap_i64]; omega
  simp only [hwa, hwb]
  (refine wpAnyH_take (i := 7) (v := ?_) rfl (by kernel_rfl) (by kernel_rfl) (by kernel_rfl) (fun _ _ _ h => h) (Or.inl ⟨by rfl, ?_⟩) ⟨_, rfl⟩ ?_; rotate_left; (intro w9 hS9; obtain ⟨p9, hp9⟩ := hS9; subst hp9; go_simp; try with_reducible rfl))
  go_simp
  try simp only [hwab]
  have HB47 := Lib.hid (below_chain HW6.out HB67.out HW6.out.size)
  have HMEM := Lib.hid (fun (x : List UInt8) (h : x ∈ m) => show x ∈ X.2 by rw [← HX.out]; exact stepS_mem a (q, m) h)
  have CS := step_walk on (.slice qa q.length qc) (.slice ma m.length mc) ov q m o (a + b) lw.world (HQ.out.below (below_chain HB7.out lw.below HB7.out.size)) (HM.out.below (below_chain HB7.out lw.below HB7.out.size)) (HT.out.below (below_chain HB7.out lw.below HB7.out.size)) (HO.out.below (below_chain HB7.out lw.below HB7.out.size)) HOL.out HOU.out HRAW.out (by omega) (by omega) (by omega) HUP.out
  rw [stepS_add, HX.out, HY.out, Int.natCast_add] at CS
  (refine wpAnyH_one (i := 8) (by kernel_rfl) rfl (fun K hK => ?_); go_simp; refine (CS).mono ?_; rintro e wz ⟨qz, mz, rfl, hqz, hmz, hb8⟩; (obtain ⟨lw8, rfl⟩ : ∃ p : LaterOf _, wz = p.world := ⟨⟨wz, below_chain lw.below hb8 lw.below.size⟩, rfl⟩); refine hK _ _ ⟨lw8, rfl⟩ ?_; clear hK K)
  have hqz2 := hqz
  have hmz2 := hmz
  obtain ⟨za, zc, rfl, -⟩ := hqz2
  obtain ⟨zb, zd, rfl, -⟩ := hmz2
  have CM := rsame20_walk on (.slice ya Y.1.length yc) (.slice yb Y.2.length yd) (.slice za Y.1.length zc) (.slice zb Y.2.length zd) Y.1 Y.2 lw8.world (HQY.out.below (below_chain HB67.out lw8.below HB67.out.size)) (HMY.out.below (below_chain HB67.out lw8.below HB67.out.size)) hqz hmz (by omega) (by omega)
  (refine wpAnyH_one (i := 9) (by kernel_rfl) rfl (fun K hK => ?_); go_simp; refine (CM).mono ?_; rintro e wz ⟨rfl, hb9⟩; (obtain ⟨lw9, rfl⟩ : ∃ p : LaterOf _, wz = p.world := ⟨⟨wz, below_chain lw8.below hb9 lw8.below.size⟩, rfl⟩); refine hK _ _ ⟨lw9, rfl⟩ ?_; clear hK K)
  (refine wpAnyH_one (i := 10) (by kernel_rfl) rfl (fun K hK => ?_); go_simp; refine hK _ _ ⟨_, rfl⟩ ?_; clear hK K)
  (refine wpAnyH_one (i := 11) (by kernel_rfl) rfl (fun K hK => ?_); go_simp; refine hK _ _ ⟨_, rfl⟩ ?_; clear hK K)
  (refine wpAnyH_one (i := 12) (by kernel_rfl) rfl (fun K hK => ?_); go_simp; refine hK _ _ ⟨_, rfl⟩ ?_; clear hK K)
  have CD := doneG_walk on (.slice qa q.length qc) (.slice ma m.length mc) q lw9.world (HQ.out.below (below_chain HB7.out lw9.below HB7.out.size)) ⟨_, _, _, rfl⟩
  obtain ⟨dn, hdn⟩ : ∃ dn, doneB on q = dn := ⟨_, rfl⟩
  have HDN := Lib.hid hdn
  rw [hdn] at CD
  clear hdn
  cases dn with
  | false =>
    (refine wpAnyH_one (i := 13) (by kernel_rfl) rfl (fun K hK => ?_); go_simp; refine (CD).mono ?_; rintro e wz ⟨rfl, hb10⟩; (obtain ⟨lw10, rfl⟩ : ∃ p : LaterOf _, wz = p.world := ⟨⟨wz, below_chain lw9.below hb10 lw9.below.size⟩, rfl⟩); refine hK _ _ ⟨lw10, rfl⟩ ?_; clear hK K)
    (refine wpAnyH_one (i := 14) (by kernel_rfl) rfl (fun K hK => ?_); go_simp; refine hK _ _ ⟨_, rfl⟩ ?_; clear hK K)
    (refine wpAnyH_take (i := 15) (v := undef) rfl (by kernel_rfl) (by kernel_rfl) (by kernel_rfl) (fun _ _ _ h => h) (Or.inr ⟨by rfl, rfl⟩) ⟨_, rfl⟩ ?_)
    (refine wpAnyH_take (i := 16) (v := undef) rfl (by kernel_rfl) (by kernel_rfl) (by kernel_rfl) (fun _ _ _ h => h) (Or.inr ⟨by rfl, rfl⟩) ⟨_, rfl⟩ ?_)
    go_simp
    (refine wpAnyH_one (i := 17) (by kernel_rfl) rfl (fun K hK => ?_); go_simp; refine hK _ _ ⟨_, rfl⟩ ?_; clear hK K)
    (refine wpAnyH_one (i := 18) (by kernel_rfl) rfl (fun K hK => ?_); go_simp; refine hK _ _ ⟨_, rfl⟩ ?_; clear hK K)
    (refine wpAnyH_one (i := 19) (by kernel_rfl) rfl (fun K hK => ?_); go_simp; refine hK _ _ ⟨_, rfl⟩ ?_; clear hK K)
    (refine wpAnyH_one (i := 20) (by kernel_rfl) rfl (fun K hK => ?_); go_simp; refine hK _ _ ⟨_, rfl⟩ ?_; clear hK K)
    (refine wpAnyH_done (by kernel_rfl) ?_ _)
    go_wp2
    obtain ⟨w9, hw9⟩ : ∃ w9 : World, w9 = lw10.world := ⟨_, rfl⟩
    go_loopw [66] (fun i wr => ∃ j : Nat, j ≤ m.length ∧ i = .int .i64 j ∧ ∃ p : LaterOf w7, wr = p.world) (fun i _ => m.length - (intOf i).toNat)
    case atStart => exact ⟨0, Nat.zero_le _, rfl, lw10, rfl⟩
    case round =>
      obtain ⟨j, hj, rfl, p, rfl⟩ := hrel
      have HBP := Lib.hid (below_chain HB7.out p.below HB7.out.size)
      by_cases hlt : j < m.length
      · have hlt' : (j : Int) < (m.length : Int) := by omega
        obtain ⟨a9, c9, hv9, -, -, hx9⟩ := HM.out
        obtain ⟨e1, e2⟩ : ma = a9 ∧ mc = c9 := by cases hv9; exact ⟨rfl, rfl⟩
        subst e1 e2
        clear hv9
        rcases hx9 with hx9 | ⟨gb, go, rfl, hx9⟩
        · exfalso; rw [hx9] at hlt; simp at hlt
        have hk0 := cell_below HBP.out (str_cell hx9 hlt)
        have HK := Lib.hid (HMEM.out _ (List.getElem_mem hlt))
        clear hx9
        generalize m[j] = k at *
        have CH := rhas_walk (.slice xb X.2.length xd) X.2 k p.world (HMX.out.below (below_chain HB47.out p.below HB47.out.size)) (by omega)
        rw [decide_eq_true HK.out] at CH
        have q1 := n1 p
        have q2 := n2 p
        go_wp2_with fail
        refine CH.mono ?_
        rintro e w10 ⟨rfl, hb10⟩
        have HL := Lib.hid (below_chain p.below hb10 p.below.size)
        clear hb10 CH q1 q2 hk0
        go_wp2
        go_roundw
        case rel => exact ⟨j + 1, by omega, by go_num, ⟨_, HL.out⟩, rfl⟩
        case measure => simp [intOf]; omega
      · have hlt' : ¬ (j : Int) < (m.length : Int) := by omega
        have CA := awake20_walk p.world
        go_wp2_with fail
        refine CA.mono ?_
        rintro e wy ⟨rfl, hby⟩
        have hBy := below_chain HBP.out hby HBP.out.size
        go_wp2
        go_ret
        exact ⟨rfl, hBy⟩
  | true =>
    have hXq : X = (q, m) := by
      have h1 := HDN.out
      unfold doneB at h1
      rw [Bool.and_eq_true, List.isEmpty_iff] at h1
      rw [← HX.out]; exact stepS_nil h1.2
    have CE := fun W (h1 : StrRow W (.slice xa X.1.length xc) X.1) (h2 : StrRow W (.slice xb X.2.length xd) X.2) (h3 : StrRow W (.slice qa q.length qc) q) (h4 : StrRow W (.slice ma m.length mc) m) => rsame20_walk on (.slice xa X.1.length xc) (.slice xb X.2.length xd) (.slice qa q.length qc) (.slice ma m.length mc) X.1 X.2 W h1 h2 (by rw [hXq]; exact h3) (by rw [hXq]; exact h4) (by omega) (by omega)
    clear hXq
    (refine wpAnyH_one (i := 13) (by kernel_rfl) rfl (fun K hK => ?_); go_simp; refine (CD).mono ?_; rintro e wz ⟨rfl, hb10⟩; (obtain ⟨lw10, rfl⟩ : ∃ p : LaterOf _, wz = p.world := ⟨⟨wz, below_chain lw9.below hb10 lw9.below.size⟩, rfl⟩); refine hK _ _ ⟨lw10, rfl⟩ ?_; clear hK K)
    (refine wpAnyH_one (i := 14) (by kernel_rfl) rfl (fun K hK => ?_); go_simp; refine hK _ _ ⟨_, rfl⟩ ?_; clear hK K)
    (refine wpAnyH_take (i := 15) (v := ?_) rfl (by kernel_rfl) (by kernel_rfl) (by kernel_rfl) (fun _ _ _ h => h) (Or.inl ⟨by rfl, ?_⟩) ⟨_, rfl⟩ ?_; rotate_left; (intro w9 hS9; obtain ⟨p9, hp9⟩ := hS9; subst hp9; go_simp; try with_reducible rfl))
    (refine wpAnyH_take (i := 16) (v := ?_) rfl (by kernel_rfl) (by kernel_rfl) (by kernel_rfl) (fun _ _ _ h => h) (Or.inl ⟨by rfl, ?_⟩) ⟨_, rfl⟩ ?_; rotate_left; (intro w9 hS9; obtain ⟨p9, hp9⟩ := hS9; subst hp9; go_simp; try with_reducible rfl))
    go_simp
    have CE2 := CE lw10.world (HQX.out.below (below_chain HB47.out lw10.below HB47.out.size)) (HMX.out.below (below_chain HB47.out lw10.below HB47.out.size)) (HQ.out.below (below_chain HB7.out lw10.below HB7.out.size)) (HM.out.below (below_chain HB7.out lw10.below HB7.out.size))
    (refine wpAnyH_one (i := 17) (by kernel_rfl) rfl (fun K hK => ?_); go_simp; refine (CE2).mono ?_; rintro e wz ⟨rfl, hb11⟩; (obtain ⟨lw11, rfl⟩ : ∃ p : LaterOf _, wz = p.world := ⟨⟨wz, below_chain lw10.below hb11 lw10.below.size⟩, rfl⟩); refine hK _ _ ⟨lw11, rfl⟩ ?_; clear hK K)
    (refine wpAnyH_one (i := 18) (by kernel_rfl) rfl (fun K hK => ?_); go_simp; refine hK _ _ ⟨_, rfl⟩ ?_; clear hK K)
    (refine wpAnyH_one (i := 19) (by kernel_rfl) rfl (fun K hK => ?_); go_simp; refine hK _ _ ⟨_, rfl⟩ ?_; clear hK K)
    (refine wpAnyH_one (i := 20) (by kernel_rfl) rfl (fun K hK => ?_); go_simp; refine hK _ _ ⟨_, rfl⟩ ?_; clear hK K)
    (refine wpAnyH_done (by kernel_rfl) ?_ _)
    go_wp2
    obtain ⟨w9, hw9⟩ : ∃ w9 : World, w9 = lw11.world := ⟨_, rfl⟩
    go_loopw [66] (fun i wr => ∃ j : Nat, j ≤ m.length ∧ i = .int .i64 j ∧ ∃ p : LaterOf w7, wr = p.world) (fun i _ => m.length - (intOf i).toNat)
    case atStart => exact ⟨0, Nat.zero_le _, rfl, lw11, rfl⟩
    case round =>
      obtain ⟨j, hj, rfl, p, rfl⟩ := hrel
      have HBP := Lib.hid (below_chain HB7.out p.below HB7.out.size)
      by_cases hlt : j < m.length
      · have hlt' : (j : Int) < (m.length : Int) := by omega
        obtain ⟨a9, c9, hv9, -, -, hx9⟩ := HM.out
        obtain ⟨e1, e2⟩ : ma = a9 ∧ mc = c9 := by cases hv9; exact ⟨rfl, rfl⟩
        subst e1 e2
        clear hv9
        rcases hx9 with hx9 | ⟨gb, go, rfl, hx9⟩
        · exfalso; rw [hx9] at hlt; simp at hlt
        have hk0 := cell_below HBP.out (str_cell hx9 hlt)
        have HK := Lib.hid (HMEM.out _ (List.getElem_mem hlt))
        clear hx9
        generalize m[j] = k at *
        have CH := rhas_walk (.slice xb X.2.length xd) X.2 k p.world (HMX.out.below (below_chain HB47.out p.below HB47.out.size)) (by omega)
        rw [decide_eq_true HK.out] at CH
        have q1 := n1 p
        have q2 := n2 p
        go_wp2_with fail
        refine CH.mono ?_
        rintro e w10 ⟨rfl, hb10⟩
        have HL := Lib.hid (below_chain p.below hb10 p.below.size)
        clear hb10 CH q1 q2 hk0
        go_wp2
        go_roundw
        case rel => exact ⟨j + 1, by omega, by go_num, ⟨_, HL.out⟩, rfl⟩
        case measure => simp [intOf]; omega
      · have hlt' : ¬ (j : Int) < (m.length : Int) := by omega
        have CA := awake20_walk p.world
        go_wp2_with fail
        refine CA.mono ?_
        rintro e wy ⟨rfl, hby⟩
        have hBy := below_chain HBP.out hby HBP.out.size
        go_wp2
        go_ret
        exact ⟨rfl, hBy⟩
end Go.Proofs.YtengciicdnkgaaaGreatDoor
