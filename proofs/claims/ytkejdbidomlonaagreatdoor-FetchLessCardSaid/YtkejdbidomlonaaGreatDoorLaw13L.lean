/- FetchLess: a tree of which one object is gone, or has other bytes, is not told; with objects more it is the same. -/
import Derived.Test.YtkejdbidomlonaaGreatDoorJNodesW
import Derived.Test.YtkejdbidomlonaaGreatDoorLessPl
import Derived.Test.YtkejdbidomlonaaGreatDoorJReady12
import Derived.Test.YtkejdbidomlonaaGreatDoorJRPut12
import Derived.Test.YtkejdbidomlonaaGreatDoorJRBuild12
import Derived.Test.YtkejdbidomlonaaGreatDoorClash12
import Derived.Test.YtkejdbidomlonaaGreatDoorJRKey11
import Derived.Test.YtkejdbidomlonaaGreatDoorR10b
import Derived.Test.YtkejdbidomlonaaGreatDoorJR11b
import Derived.Deep.CutRange
namespace Go.Proofs.YtkejdbidomlonaaGreatDoor
open Go.RowKit

theorem rem_nat (a b : Nat) : Int.tmod (a : Int) (b : Int) = ((a % b : Nat) : Int) := by
  rw [Int.ofNat_tmod]
/-- Between two rounds of the loop. -/
def LessW (w6 : World) (o : List Snp) (i : Nat) (y : Snp) (bad : Bool) (v iv : Value) (wr : World) : Prop :=
  ∃ (q : Nat) (ac : Option Addr) (acap : Nat), q ≤ o.length ∧ iv = .int .i64 q ∧ v = .slice ac (lessL o i y bad q).length acap ∧ Hid (wr.ownsRow w6.heap.size 27 2 (.slice ac (lessL o i y bad q).length acap) (lessL o i y bad q).length ((lessL o i y bad q).flatMap snpC)) ∧ Hid (Below w6.heap.size w6 wr)

set_option maxHeartbeats 16000000 in
set_option maxRecDepth 100000 in
theorem less13_walk (x y z : Int) (v : Value) (l : List Itm) (wh : Nat) (xo : Snp) (bad : Bool) (w : World) (hT : ErrT w) (hr : ItRow w v l) (hd : ∀ i ∈ l, i.2.2.2.length ≤ 140737488355328) (hwh : wh < 65536) :
    Calls Tryz.prog 3 #[.agg #[.int .i64 x, .int .i64 y, .int .i64 z], v, .int .u16 wh, SnpV xo, .bool bad] w fun e w' => e = .returned (.bool true) ∧ Below w.heap.size w w' := by
  obtain ⟨xk, xr⟩ := xo
  show Calls _ _ #[_, _, _, .agg #[S xk, S xr], _] _ _
  obtain ⟨w1, hw1, HB1, HC1⟩ : ∃ w1, w1 = (w.alloc (.cells #[.int .i64 x, .int .i64 y, .int .i64 z] 23)).alloc (.cells #[S xk, S xr] 27) ∧ Hid (Below w.heap.size w w1) ∧ Hid (w1.heap[w.heap.size]? = some (.cells #[.int .i64 x, .int .i64 y, .int .i64 z] 23 (0, 0)) ∧ w1.heap[w.heap.size + 1]? = some (.cells #[S xk, S xr] 27 (0, 0))) :=
    ⟨_, rfl, Lib.hid (((Below.refl _ _).alloc (Nat.le_refl _) _).alloc (by simp) _), Lib.hid ⟨(Below.heap_alloc _ _ _ (by simp)).trans (heap_alloc_new _ _), by
      have h := heap_alloc_new (w.alloc (.cells #[.int .i64 x, .int .i64 y, .int .i64 z] 23)) (.cells #[S xk, S xr] 27)
      rwa [World.size_alloc] at h⟩⟩
  obtain ⟨is, his, hq0, hq1, hq2⟩ := info_parts infoStr
  obtain ⟨io, hio, hp0, hp1, hp2⟩ := info_parts infoObj
  have C1 := few13_walk x y z v l w1 (hr.below HB1.out) hd
  have HR := Lib.hid hr
  have HT := Lib.hid hT
  obtain ⟨a, c, rfl, -⟩ := hr
  have c0 := heap_cell HC1.out.1 (j := 0) (v := .int .i64 x) rfl
  have c1 := heap_cell HC1.out.1 (j := 1) (v := .int .i64 y) rfl
  have c2 := heap_cell HC1.out.1 (j := 2) (v := .int .i64 z) rfl
  clear hT hd
  go_enter Tryz.func3, Tryz.ntmps3
  go_upto_region 1 with fail
  rw [← hw1]
  clear hw1
  go_wp2_with fail
  refine C1.mono ?_
  rintro e w2 ⟨f, rfl, hf, hb2⟩
  have HB2 := Lib.hid (below_chain HB1.out hb2 HB1.out.size)
  have hC2 := (hb2.block _ (heap_lt HC1.out.1)).trans HC1.out.1
  have hX2 := (hb2.block _ (heap_lt HC1.out.2)).trans HC1.out.2
  have HF := Lib.hid hf
  clear C1 c0 c1 c2 hb2 hf
  cases f with
  | false => (have CA := awake13_walk w2 (HT.out.below HB2.out); go_wp2_with fail; refine CA.mono ?_; rintro e wy ⟨rfl, hby⟩; have hBy := below_chain HB2.out hby (Below.size HB2.out); go_wp2; go_ret; exact ⟨rfl, hBy⟩)
  | true =>
  obtain ⟨⟨x', k, z', hfc, rfl, rfl, rfl, hrd⟩, hll, -, -⟩ := HF.out (by first | rfl | trivial)
  have CP := rbuild12_walk x' k (2 ^ k) z' (.slice a l.length c) l w2 hfc rfl hrd (HR.out.below HB2.out)
  have CRL := fun (W : World) (hb : Below w.heap.size w W) => rraws12_walk x' k (2 ^ k) z' (.slice a l.length c) l W hfc rfl hrd (HR.out.below hb) (by have := hrd.nodes_len; omega)
  have HO := Lib.hid hrd.less
  have HRS := Lib.hid (rawsN_small (nodesD (piecesC x' k z') l 9 []))
  have hrl : (rawsN (nodesD (piecesC x' k z') l 9 [])).length ≤ 70000 := by rw [rawsN_len]; exact hrd.nodes_len
  have HC2 := Lib.hid hC2
  have HX2 := Lib.hid hX2
  have c0 := heap_cell hC2 (j := 0) (v := .int .i64 (x' : Nat)) rfl
  have c1 := heap_cell hC2 (j := 1) (v := .int .i64 ((2 ^ k : Nat) : Int)) rfl
  have c2 := heap_cell hC2 (j := 2) (v := .int .i64 (z' : Nat)) rfl
  obtain ⟨⟨o0, o1⟩, -, -⟩ := box2 hX2
  clear hfc hrd hC2 HF hX2
  generalize keyN (dirN (piecesC x' k z') l 9 []) = k1 at *
  generalize rawsN (nodesD (piecesC x' k z') l 9 []) = rs at *
  generalize dirO (piecesC x' k z') l 9 [] [] = oo at *
  generalize 2 ^ k = y at *
  by_cases hx3 : 3000 < xr.length
  · have hx3' : (3000 : Int) < (xr.length : Int) := by omega
    have CA := awake13_walk w2 (HT.out.below HB2.out)
    clear CP CRL
    go_wp2_with fail
    refine CA.mono ?_
    rintro e wy ⟨rfl, hby⟩
    have hBy := below_chain HB2.out hby (Below.size HB2.out)
    go_wp2
    go_ret
    exact ⟨rfl, hBy⟩
  have hx3' : ¬ (3000 : Int) < (xr.length : Int) := by omega
  go_wp2_with fail
  refine CP.mono ?_
  rintro e w4 ⟨v4, rfl, hr4, hb4⟩
  have HB4 := Lib.hid (below_chain HB2.out hb4 HB2.out.size)
  have HC4 := Lib.hid ((hb4.block _ (heap_lt HC2.out)).trans HC2.out)
  have hX4 := (hb4.block _ (heap_lt HX2.out)).trans HX2.out
  have HX4 := Lib.hid hX4
  have HR4 := Lib.hid hr4
  have CAD : Calls Tryz.prog 10 #[v4, .agg #[S xk, S xr]] w4 _ := r12add_walk v4 oo (xk, xr) w4 hr4 (by have := HO.out.len; omega)
  have HAL := Lib.hid (show (addO oo (xk, xr)).length ≤ 70001 by have := addO_len oo (xk, xr); have := HO.out.len; omega)
  have HAU := Lib.hid (show upS (namesR (addO oo (xk, xr))) from fit5_up12 (addO_fit HO.out.fit))
  have HAR := Lib.hid (show ∀ y ∈ addO oo (xk, xr), y.2.length ≤ 1000000 from fun y hy => add_raw (fun z hz => by have := HO.out.raw z hz; omega) (show xr.length ≤ 1000000 by omega) hy)
  obtain ⟨a4, n4, rfl, -, -, hx4⟩ := hr4
  have HXX := Lib.hid hx4
  have hol := HO.out.len
  have HTA := Lib.hid (fun rs' h1 h2 => HO.out.add (xk, xr) rs' h1 h2)
  generalize addO oo (xk, xr) = oa at *
  obtain ⟨⟨o0, o1⟩, -, -⟩ := box2 hX4
  clear CP c0 c1 c2 hb4 hx4 hX4
  go_wp2_with fail
  refine CAD.mono ?_
  rintro e w5 ⟨av, rfl, har, hb5⟩
  have HB5 := Lib.hid (below_chain HB4.out hb5 HB4.out.size)
  have CT := tree13_walk av oa k1 w5 har (HT.out.below HB5.out) HAU.out (by have := HAL.out; omega) HAR.out
  have HB45 := Lib.hid hb5
  obtain ⟨tc, htc⟩ : ∃ tc, toldC oa k1 = tc := ⟨_, rfl⟩
  have HTC := Lib.hid htc
  rw [htc] at CT
  clear CAD hb5 har htc o0 o1
  go_wp2_with fail
  refine CT.mono ?_
  rintro e w6 ⟨mv, rfl, hm6, hb6⟩
  have HB6 := Lib.hid (below_chain HB5.out hb6 HB5.out.size)
  have h46 := below_chain HB45.out hb6 HB45.out.size
  have HC6 := Lib.hid ((h46.block _ (heap_lt HC4.out)).trans HC4.out)
  have HX6 := Lib.hid ((h46.block _ (heap_lt HX4.out)).trans HX4.out)
  have HR6 := Lib.hid (HR4.out.below h46)
  have HM6 := Lib.hid hm6
  obtain ⟨ma, mc, rfl⟩ := row_slice hm6
  have HPOS := Lib.hid HO.out.pos
  have hwp : IntKind.i64.wrap (wh : Int) = (wh : Int) := by rw [IntKind.wrap_i64]; omega
  have hmod := rem_nat wh oo.length
  have hil : wh % oo.length < oo.length := Nat.mod_lt _ HPOS.out
  have hnz : ¬ (oo.length : Int) = 0 := by have := HPOS.out; omega
  have hnzb : ((oo.length : Int) == 0) = false := by rw [beq_eq_false_iff_ne]; exact hnz
  generalize wh % oo.length = i at *
  have hiw : IntKind.i64.wrap (i : Int) = (i : Int) := by rw [IntKind.wrap_i64]; omega
  clear CT hm6 hb6 h46
  go_upto_region 6 with fail
  obtain ⟨ri, hri⟩ : ∃ ri, oo[i].2 = ri := ⟨_, rfl⟩
  have HRI := Lib.hid (show ri.length ≤ 100000 by rw [← hri]; exact HO.out.raw _ (List.getElem_mem hil))
  have HXR := Lib.hid (show xr.length ≤ 3000 by omega)
  obtain ⟨g, go, rfl, hx6⟩ : ∃ g go, a4 = some ⟨g, go, none⟩ ∧ w6.cell? ⟨g, go + i * 2 + 1, none⟩ = some (S ri) := by
    obtain ⟨_, _, he, -, -, hx⟩ := HR6.out
    cases he
    rcases hx with hx | ⟨g, go, hg, hx⟩
    · exfalso; rw [hx] at hil; simp at hil
    · exact ⟨g, go, hg, by rw [← hri]; exact (snp_cells hx hil).2⟩
  have HRI2 := Lib.hid hri
  have HIL := Lib.hid hil
  have hil' : (i : Int) < (oo.length : Int) := by omega
  have hns : ¬ 9223372036854775807 < ri.length + 1 := by have := HRI.out; omega
  have l0 := LaterOf.cell (heap_cell HC6.out (j := 0) (v := .int .i64 (x' : Nat)) rfl)
  have l1 := LaterOf.cell (heap_cell HC6.out (j := 1) (v := .int .i64 (y : Nat)) rfl)
  have l2 := LaterOf.cell (heap_cell HC6.out (j := 2) (v := .int .i64 (z' : Nat)) rfl)
  have l3 := LaterOf.cell hx6
  have l4 := LaterOf.cell (heap_cell HX6.out (j := 1) (v := S xr) rfl)
  clear hri hx6 hwp hmod hnz hnzb hx3 hx3'
  go_cut [64] from 65 (fun cv wc => ∃ cb : Bool, cv = .bool cb ∧ Hid (Below w6.heap.size w6 wc) ∧ Hid (cb = false → ¬ ClashP (rs ++ [ri ++ [120], xr])))
  case first =>
    have CL := fun lw : LaterOf w6 => CRL lw.world (below_chain HB6.out lw.below HB6.out.size)
    clear CRL
    (refine wp_held (by kernel_rfl) ?_; intro lw)
    (refine wpAnyH_take (i := 0) (v := ?_) rfl (by kernel_rfl) (by kernel_rfl) (by kernel_rfl) (fun _ _ _ h => h) (Or.inl ⟨by rfl, ?_⟩) ⟨_, rfl⟩ ?_; rotate_left; (intro w9 hS9; obtain ⟨p9, hp9⟩ := hS9; subst hp9; go_simp; try with_reducible rfl))
    (refine wpAnyH_take (i := 1) (v := ?_) rfl (by kernel_rfl) (by kernel_rfl) (by kernel_rfl) (fun _ _ _ h => h) (Or.inl ⟨by rfl, ?_⟩) ⟨_, rfl⟩ ?_; rotate_left; (intro w9 hS9; obtain ⟨p9, hp9⟩ := hS9; subst hp9; go_simp; try with_reducible rfl))
    (refine wpAnyH_take (i := 3) (v := ?_) rfl (by kernel_rfl) (by kernel_rfl) (by kernel_rfl) (fun _ _ _ h => h) (Or.inl ⟨by rfl, ?_⟩) ⟨_, rfl⟩ ?_; rotate_left; (intro w9 hS9; obtain ⟨p9, hp9⟩ := hS9; subst hp9; go_simp; try with_reducible rfl))
    (refine wpAnyH_take (i := 4) (v := ?_) rfl (by kernel_rfl) (by kernel_rfl) (by kernel_rfl) (fun _ _ _ h => h) (Or.inl ⟨by rfl, ?_⟩) ⟨_, rfl⟩ ?_; rotate_left; (intro w9 hS9; obtain ⟨p9, hp9⟩ := hS9; subst hp9; go_simp; try with_reducible rfl))
    (refine wpAnyH_take (i := 5) (v := ?_) rfl (by kernel_rfl) (by kernel_rfl) (by kernel_rfl) (fun _ _ _ h => h) (Or.inl ⟨by rfl, ?_⟩) ⟨_, rfl⟩ ?_; rotate_left; (intro w9 hS9; obtain ⟨p9, hp9⟩ := hS9; subst hp9; go_simp; try with_reducible rfl))
    (refine wpAnyH_take (i := 6) (v := ?_) rfl (by kernel_rfl) (by kernel_rfl) (by kernel_rfl) (fun _ _ _ h => h) (Or.inl ⟨by rfl, ?_⟩) ⟨_, rfl⟩ ?_; rotate_left; (intro w9 hS9; obtain ⟨p9, hp9⟩ := hS9; subst hp9; go_simp; try with_reducible rfl))
    (refine wpAnyH_take (i := 7) (v := ?_) rfl (by kernel_rfl) (by kernel_rfl) (by kernel_rfl) (fun _ _ _ h => h) (Or.inl ⟨by rfl, ?_⟩) ⟨_, rfl⟩ ?_; rotate_left; (intro w9 hS9; obtain ⟨p9, hp9⟩ := hS9; subst hp9; go_simp; try with_reducible rfl))
    (refine wpAnyH_take (i := 8) (v := ?_) rfl (by kernel_rfl) (by kernel_rfl) (by kernel_rfl) (fun _ _ _ h => h) (Or.inl ⟨by rfl, ?_⟩) ⟨_, rfl⟩ ?_; rotate_left; (intro w9 hS9; obtain ⟨p9, hp9⟩ := hS9; subst hp9; go_simp; try with_reducible rfl))
    (refine wpAnyH_take (i := 9) (v := ?_) rfl (by kernel_rfl) (by kernel_rfl) (by kernel_rfl) (fun _ _ _ h => h) (Or.inl ⟨by rfl, ?_⟩) ⟨_, rfl⟩ ?_; rotate_left; (intro w9 hS9; obtain ⟨p9, hp9⟩ := hS9; subst hp9; go_simp; try with_reducible rfl))
    (refine wpAnyH_take (i := 10) (v := ?_) rfl (by kernel_rfl) (by kernel_rfl) (by kernel_rfl) (fun _ _ _ h => h) (Or.inl ⟨by rfl, ?_⟩) ⟨_, rfl⟩ ?_; rotate_left; (intro w9 hS9; obtain ⟨p9, hp9⟩ := hS9; subst hp9; go_simp; try with_reducible rfl))
    rw [S_app]
    refine wpAnyH_two (i := 2) (j := 11) (by kernel_rfl) rfl rfl (fun K hK => ?_) (fun K hK => ?_)
    · go_simp
      refine (CL lw).mono ?_
      rintro e wz ⟨v1, rfl, ho1, hb1⟩
      obtain ⟨lw1, rfl⟩ : ∃ p : LaterOf w6, wz = p.world := ⟨⟨wz, below_chain lw.below hb1 lw.below.size⟩, rfl⟩
      refine hK _ _ ⟨lw1, rfl⟩ ?_
      clear hK K CL
      refine wpAnyH_one (i := 11) (by kernel_rfl) rfl (fun K hK => ?_)
      go_simp
      obtain ⟨lw2, hw2⟩ : ∃ p : LaterOf w6, lw1.world.alloc (.cells #[S (ri ++ [120]), S xr] 9) = p.world := ⟨⟨_, lw1.below.alloc lw1.below.size _⟩, rfl⟩
      replace ho1 := own_base (own_on ho1 (show Below lw1.world.heap.size lw1.world lw2.world by rw [← hw2]; exact (Below.refl _ _).alloc (Nat.le_refl _) _)) lw.below.size
      have hnc := new_cells lw1.world (S (ri ++ [120])) (S xr) 9
      rw [hw2] at hnc
      generalize lw1.world.heap.size = nb at *
      rw [hw2]
      refine hK _ _ ⟨lw2, rfl⟩ ?_
      clear hK K hw2
      have h1 := lw2.below
      refine wpAnyH_one (i := 12) (by kernel_rfl) rfl (fun K hK => ?_)
      rw [if_pos (by rfl)]
      refine wp_append_own _ (.tmp 53) (.tmp 62) 38 rfl w6.heap.size 9 is (.string ⟨#[]⟩) 1 16 Tryz.underlying38 his hq0 hq1 hq2 rfl (by decide) v1 rs.length (rs.map S) rfl ho1 ⟨nb, 0, none⟩ 2 2 [S (ri ++ [120]), S xr] rfl rfl hnc (by intro u hu; simp at hu; rcases hu with rfl | rfl <;> rfl) (by unfold maxLen; omega) (by omega) lw2.below.size ?_
      intro v' w7 hown' hgrow _
      have ho3 : w7.ownsRow w6.heap.size 9 1 v' (rs ++ [ri ++ [120], xr]).length ((rs ++ [ri ++ [120], xr]).map S) := by rw [List.length_append, List.map_append]; exact hown'
      obtain ⟨lw3, rfl⟩ : ∃ p : LaterOf w6, w7 = p.world := ⟨⟨w7, lw2.below.grown hgrow lw2.below.size (fun k hk => (ho1.lt k hk).1)⟩, rfl⟩
      have CC := rclash12_walk v' (rs ++ [ri ++ [120], xr]) lw3.world (StrRow.of_owns ho3) (by rw [List.length_append]; simp; omega) (by
        intro x hx
        rcases List.mem_append.1 hx with hx | hx
        · exact HRS.out x hx
        · simp at hx
          rcases hx with rfl | rfl
          · rw [List.length_append]; have := HRI.out; simp; omega
          · have := HXR.out; omega)
      clear hown' hgrow ho1 ho3 hnc h1
      refine hK _ _ ⟨lw3, rfl⟩ ?_
      clear hK K
      (refine wpAnyH_one (i := 13) (by kernel_rfl) rfl (fun K hK => ?_); go_simp; refine (CC).mono ?_; rintro e wz ⟨cb, rfl, hcb, hb8⟩; (obtain ⟨lw4, rfl⟩ : ∃ p : LaterOf _, wz = p.world := ⟨⟨wz, below_chain lw3.below hb8 lw3.below.size⟩, rfl⟩); refine hK _ _ ⟨lw4, rfl⟩ ?_; clear hK K)
      clear CC hb8
      (refine wpAnyH_done (by kernel_rfl) ?_ _)
      have HB9 := Lib.hid lw4.below
      have HEQ := Lib.hid (fun (h : cb = false) => (show ¬ ClashP (rs ++ [ri ++ [120], xr]) from fun hp => by have := hcb.2 hp; rw [h] at this; cases this))
      clear hcb
      go_wp2
      go_meet
      case rel => exact ⟨cb, rfl, HB9, HEQ⟩
    · go_simp
      obtain ⟨lw1, hw1⟩ : ∃ p : LaterOf w6, lw.world.alloc (.cells #[S (ri ++ [120]), S xr] 9) = p.world := ⟨⟨_, lw.below.alloc lw.below.size _⟩, rfl⟩
      have hnc1 := new_cells lw.world (S (ri ++ [120])) (S xr) 9
      rw [hw1] at hnc1
      generalize lw.world.heap.size = nb at *
      rw [hw1]
      refine hK _ _ ⟨lw1, rfl⟩ ?_
      clear hK K hw1
      refine wpAnyH_one (i := 2) (by kernel_rfl) rfl (fun K hK => ?_)
      go_simp
      refine (CL lw1).mono ?_
      rintro e wz ⟨v1, rfl, ho1, hb1⟩
      have hnc : ∀ (j : Nat) u, [S (ri ++ [120]), S xr][j]? = some u → wz.cell? ((⟨nb, 0, none⟩ : Addr).add j) = some u := fun j u hj => by
        match j, hj with
        | 0, hj => (have h := hnc1 0 u hj; simp only [Addr.add] at h ⊢; exact cell_below hb1 h)
        | 1, hj => (have h := hnc1 1 u hj; simp only [Addr.add] at h ⊢; exact cell_below hb1 h)
        | j + 2, hj => simp at hj
      obtain ⟨lw2, rfl⟩ : ∃ p : LaterOf w6, wz = p.world := ⟨⟨wz, below_chain lw1.below hb1 lw1.below.size⟩, rfl⟩
      refine hK _ _ ⟨lw2, rfl⟩ ?_
      replace ho1 := own_base ho1 lw1.below.size
      clear hK K CL hnc1
      have h1 := lw2.below
      refine wpAnyH_one (i := 12) (by kernel_rfl) rfl (fun K hK => ?_)
      rw [if_pos (by rfl)]
      refine wp_append_own _ (.tmp 53) (.tmp 62) 38 rfl w6.heap.size 9 is (.string ⟨#[]⟩) 1 16 Tryz.underlying38 his hq0 hq1 hq2 rfl (by decide) v1 rs.length (rs.map S) rfl ho1 ⟨nb, 0, none⟩ 2 2 [S (ri ++ [120]), S xr] rfl rfl hnc (by intro u hu; simp at hu; rcases hu with rfl | rfl <;> rfl) (by unfold maxLen; omega) (by omega) lw2.below.size ?_
      intro v' w7 hown' hgrow _
      have ho3 : w7.ownsRow w6.heap.size 9 1 v' (rs ++ [ri ++ [120], xr]).length ((rs ++ [ri ++ [120], xr]).map S) := by rw [List.length_append, List.map_append]; exact hown'
      obtain ⟨lw3, rfl⟩ : ∃ p : LaterOf w6, w7 = p.world := ⟨⟨w7, lw2.below.grown hgrow lw2.below.size (fun k hk => (ho1.lt k hk).1)⟩, rfl⟩
      have CC := rclash12_walk v' (rs ++ [ri ++ [120], xr]) lw3.world (StrRow.of_owns ho3) (by rw [List.length_append]; simp; omega) (by
        intro x hx
        rcases List.mem_append.1 hx with hx | hx
        · exact HRS.out x hx
        · simp at hx
          rcases hx with rfl | rfl
          · rw [List.length_append]; have := HRI.out; simp; omega
          · have := HXR.out; omega)
      clear hown' hgrow ho1 ho3 hnc h1
      refine hK _ _ ⟨lw3, rfl⟩ ?_
      clear hK K
      (refine wpAnyH_one (i := 13) (by kernel_rfl) rfl (fun K hK => ?_); go_simp; refine (CC).mono ?_; rintro e wz ⟨cb, rfl, hcb, hb8⟩; (obtain ⟨lw4, rfl⟩ : ∃ p : LaterOf _, wz = p.world := ⟨⟨wz, below_chain lw3.below hb8 lw3.below.size⟩, rfl⟩); refine hK _ _ ⟨lw4, rfl⟩ ?_; clear hK K)
      clear CC hb8
      (refine wpAnyH_done (by kernel_rfl) ?_ _)
      have HB9 := Lib.hid lw4.below
      have HEQ := Lib.hid (fun (h : cb = false) => (show ¬ ClashP (rs ++ [ri ++ [120], xr]) from fun hp => by have := hcb.2 hp; rw [h] at this; cases this))
      clear hcb
      go_wp2
      go_meet
      case rel => exact ⟨cb, rfl, HB9, HEQ⟩
  case rest =>
  obtain ⟨cb, rfl, HB7, HEQ⟩ := hcut
  obtain ⟨w9, rfl⟩ : ∃ w9, w9 = wc := ⟨_, rfl⟩
  have HB9 := Lib.hid (show Below w.heap.size w w9 from below_chain HB6.out HB7.out HB6.out.size)
  clear l0 l1 l2 l3 l4 CRL
  cases cb with
  | true => (have CA := awake13_walk w9 (HT.out.below HB9.out); go_wp2_with fail; refine CA.mono ?_; rintro e wy ⟨rfl, hby⟩; have hBy := below_chain HB9.out hby (Below.size HB9.out); go_wp2; go_ret; exact ⟨rfl, hBy⟩)
  | false =>
  have HNC := Lib.hid (HEQ.out rfl)
  have hta := HTA.out _ (fun r hr => List.mem_append_left _ hr) HNC.out
  rw [HTC.out] at hta
  subst hta
  have HR9 := Lib.hid (HR6.out.below HB7.out)
  have HM9 := Lib.hid (HM6.out.below HB7.out)
  obtain ⟨y', hy'⟩ : ∃ y' : Snp, (oo[i].1, ri ++ [120]) = y' := ⟨_, rfl⟩
  have HY := Lib.hid hy'
  have HUP := Lib.hid (fun (b : Bool) => lessL_up (q := oo.length) (y := y') (bad := b) HO.out.up hil (by rw [← hy']; rfl))
  have HTG := Lib.hid (show toldC (lessL oo i y' false oo.length) k1 = ([], 5) by
    rw [← hy', ← HRI2.out]
    exact HO.out.gone i hil _ (fun r hr => List.mem_append_left _ hr) HNC.out)
  have HTB := Lib.hid (show toldC (lessL oo i y' true oo.length) k1 = ([], 11) by
    rw [← hy', ← HRI2.out]
    exact HO.out.bad i hil _ (fun r hr => List.mem_append_left _ hr) (by rw [HRI2.out]; simp) HNC.out)
  have HLR := Lib.hid (fun (b : Bool) => (show ∀ z ∈ lessL oo i y' b oo.length, z.2.length ≤ 1000000 from fun z hz => by
    rcases lessL_mem hz with rfl | hz
    · rw [← hy']; show (ri ++ [120]).length ≤ _; rw [List.length_append]; have := HRI.out; simp; omega
    · have := HO.out.raw z hz; omega))
  clear hy' HTC
  go_wp2
  go_loopw [16, 68] (fun v iv wr => LessW w9 oo i y' bad v iv wr) (fun _ iv _ => oo.length - (intOf iv).toNat)
  case atStart =>
    have e : lessL oo i y' bad 0 = [] := by cases bad <;> simp [lessL]
    exact ⟨0, none, 0, Nat.zero_le _, rfl, by rw [e]; rfl, Lib.hid (by rw [e]; exact World.ownsRow_nil _ _ _ _), Lib.hid (Below.refl _ _)⟩
  case round =>
    obtain ⟨q, ac, acap, hq, rfl, rfl, HOW, HB⟩ := hrel
    have hll2 := lessL_len (o := oo) (i := i) (q := q) (y := y') (bad := bad)
    by_cases h1 : q < oo.length
    · have h1' : (q : Int) < (oo.length : Int) := by omega
      have hxx : ∃ p r, oo[q] = (p, r) ∧ wr.cell? ⟨g, go + q * 2, none⟩ = some (S p) ∧ wr.cell? ⟨g, go + q * 2 + 1, none⟩ = some (S r) := by
        obtain ⟨_, _, he, -, -, hx⟩ := HR9.out
        cases he
        rcases hx with hx | ⟨g2, go2, hg, hx⟩
        · exfalso; rw [hx] at h1; simp at h1
        · cases hg
          obtain ⟨hx1, hx2⟩ := snp_cells hx h1
          exact ⟨oo[q].1, oo[q].2, rfl, cell_below HB.out hx1, cell_below HB.out hx2⟩
      obtain ⟨p, r, hpr, m1, m2⟩ := hxx
      have HRL := Lib.hid (show r.length ≤ 100000 from by have := HO.out.raw _ (List.getElem_mem h1); rw [hpr] at this; exact this)
      obtain ⟨wb, hwb, hbb, hz⟩ : ∃ wb, wb = wr.alloc (.cells #[S p, S r] 27) ∧ Below wr.heap.size wr wb ∧ wb.heap[wr.heap.size]? = some (.cells #[S p, S r] 27 (0, 0)) :=
        ⟨_, rfl, (Below.refl _ _).alloc (Nat.le_refl _) _, heap_alloc_new _ _⟩
      have HOA := Lib.hid (own_on HOW.out hbb)
      have HBA := Lib.hid (below_chain HB.out hbb HB.out.size)
      obtain ⟨⟨b0, b1⟩, -, -⟩ := box2 hz
      by_cases hqi : q = i
      · subst hqi
        have hyp : y' = (p, r ++ [120]) := by
          have e1 : oo[q].1 = p := congrArg Prod.fst hpr
          have e2 : ri = r := HRI2.out.symm.trans (congrArg Prod.snd hpr)
          refine HY.out.symm.trans ?_
          rw [e2]
          exact congrArg (fun u => (u, r ++ [120])) e1
        cases bad with
        | false =>
          have HST := Lib.hid (lessL_gone (y := y') h1)
          clear hbb hz hyp
          go_upto_region 12 with fail
          rw [← hwb]
          clear hwb m1 m2
          go_wp2
          go_roundw
          case rel => exact ⟨q + 1, ac, acap, by omega, by go_num, by rw [HST.out], Lib.hid (by rw [HST.out]; exact HOA.out), HBA⟩
          case measure => simp [intOf]; omega
        | true =>
          have HST := Lib.hid (show lessL oo q y' true (q + 1) = lessL oo q y' true q ++ [(p, r ++ [120])] by rw [lessL_bad h1, hyp])
          have hns2 : ¬ 9223372036854775807 < r.length + 1 := by have := HRL.out; omega
          have gf := Lib.frozen_of_heap hz 1
          have g2 := is_some b1
          obtain ⟨wb2, hwb2, hz2, HOB, HBB⟩ : ∃ wb2, wb2 = wb.setCell ⟨wr.heap.size, 1, none⟩ (S (r ++ [120])) ∧ wb2.heap[wr.heap.size]? = some (.cells #[S p, S (r ++ [120])] 27 (0, 0)) ∧ Hid (wb2.ownsRow w9.heap.size 27 2 (.slice ac (lessL oo q y' true q).length acap) (lessL oo q y' true q).length ((lessL oo q y' true q).flatMap snpC)) ∧ Hid (Below w9.heap.size w9 wb2) :=
            ⟨_, rfl, heap_set_cell (o := 1) hz _, Lib.hid (own_blockF HOA.out fun j hj => Below.heap_setCell _ _ _ _ (show j ≠ wr.heap.size by have := (HOW.out.lt j hj).2; omega)), Lib.hid (below_setT HBA.out HB.out.size _ _)⟩
          clear hbb hyp hz
          go_upto_region 12 with fail
          rw [← hwb]
          clear hwb m1 m2
          go_upto_region 15 with fail
          rw [S_app, ← hwb2]
          clear hwb2 b0 b1 gf g2
          obtain ⟨⟨b0, b1⟩, -, -⟩ := box2 hz2
          clear hz2
          obtain ⟨wb, rfl⟩ : ∃ wb', wb' = wb2 := ⟨_, rfl⟩
          go_wp2_with (at_builtin; refine wpList_append_own _ rfl _ _ 30 rfl w9.heap.size 27 io (.agg #[.string ⟨#[]⟩, .string ⟨#[]⟩]) 2 32 Tryz.underlying30 hio hp0 hp1 hp2 rfl (by decide) _ _ _ rfl (HOB.out.alloc _) ⟨wb.heap.size, 0, none⟩ 1 1 [S p, S (r ++ [120])] rfl rfl (new_cells _ _ _ _) (by intro u hu; simp at hu; rcases hu with rfl | rfl <;> rfl) (by unfold maxLen; omega) (by omega) (by rw [World.size_alloc]; have := HBB.out.size; omega) ?_)
          intro v' w3 hown' hgrow _
          obtain ⟨g', cap', rfl⟩ := ownsRow_succ hown'
          have HB3 := Lib.hid ((HBB.out.alloc HBB.out.size _).grown hgrow (by simp; have := HBB.out.size; omega) (fun j hj => (HOB.out.lt j hj).1))
          have HO3 := Lib.hid hown'
          have HLN := Lib.hid (show (lessL oo q y' true q).length + 1 = (lessL oo q y' true (q + 1)).length by rw [HST.out, List.length_append]; rfl)
          have HFL := Lib.hid (show (lessL oo q y' true (q + 1)).flatMap snpC = (lessL oo q y' true q).flatMap snpC ++ [S p, S (r ++ [120])] by rw [HST.out, List.flatMap_append]; rfl)
          clear hown' hgrow b0 b1
          go_wp2
          go_roundw
          case rel => exact ⟨q + 1, some ⟨g', 0, none⟩, cap', by omega, by go_num, by rw [HLN.out], Lib.hid (by rw [HFL.out, ← HLN.out]; exact HO3.out), HB3⟩
          case measure => simp [intOf]; omega
      · have hqb : ((q : Int) == (i : Int)) = false := by rw [beq_eq_false_iff_ne]; omega
        have hqp : ¬ (q : Int) = (i : Int) := by omega
        have HST := Lib.hid (show lessL oo i y' bad (q + 1) = lessL oo i y' bad q ++ [(p, r)] by rw [lessL_other h1 hqi, hpr])
        have HOB := HOA
        have HBB := HBA
        clear hbb hz
        go_upto_region 12 with fail
        rw [← hwb]
        clear hwb m1 m2
        go_upto_region 15 with fail
        go_wp2_with (at_builtin; refine wpList_append_own _ rfl _ _ 30 rfl w9.heap.size 27 io (.agg #[.string ⟨#[]⟩, .string ⟨#[]⟩]) 2 32 Tryz.underlying30 hio hp0 hp1 hp2 rfl (by decide) _ _ _ rfl (HOB.out.alloc _) ⟨wb.heap.size, 0, none⟩ 1 1 [S p, S r] rfl rfl (new_cells _ _ _ _) (by intro u hu; simp at hu; rcases hu with rfl | rfl <;> rfl) (by unfold maxLen; omega) (by omega) (by rw [World.size_alloc]; have := HBB.out.size; omega) ?_)
        intro v' w3 hown' hgrow _
        obtain ⟨g', cap', rfl⟩ := ownsRow_succ hown'
        have HB3 := Lib.hid ((HBB.out.alloc HBB.out.size _).grown hgrow (by simp; have := HBB.out.size; omega) (fun j hj => (HOB.out.lt j hj).1))
        have HO3 := Lib.hid hown'
        have HLN := Lib.hid (show (lessL oo i y' bad q).length + 1 = (lessL oo i y' bad (q + 1)).length by rw [HST.out, List.length_append]; rfl)
        have HFL := Lib.hid (show (lessL oo i y' bad (q + 1)).flatMap snpC = (lessL oo i y' bad q).flatMap snpC ++ [S p, S r] by rw [HST.out, List.flatMap_append]; rfl)
        clear hown' hgrow b0 b1
        go_wp2
        go_roundw
        case rel => exact ⟨q + 1, some ⟨g', 0, none⟩, cap', by omega, by go_num, by rw [HLN.out], Lib.hid (by rw [HFL.out, ← HLN.out]; exact HO3.out), HB3⟩
        case measure => simp [intOf]; omega
    · have h1' : ¬ (q : Int) < (oo.length : Int) := by omega
      obtain rfl : q = oo.length := by omega
      have HS := Lib.hid (show SnpRow wr (.slice ac (lessL oo i y' bad oo.length).length acap) (lessL oo i y' bad oo.length) from Row.of_ownsK (f := snpC) (K := 2) (fun _ => rfl) HOW.out)
      have HBW := Lib.hid (below_chain HB9.out HB.out HB9.out.size)
      have CT := tree13_walk _ (lessL oo i y' bad oo.length) k1 wr HS.out (HT.out.below HBW.out) (HUP.out bad) (by omega) (HLR.out bad)
      rw [show toldC (lessL oo i y' bad oo.length) k1 = ([], if bad = true then 11 else 5) by cases bad; exact HTG.out; exact HTB.out] at CT
      go_wp2_with fail
      refine CT.mono ?_
      rintro e wA ⟨nv, rfl, hn, hba⟩
      obtain ⟨na, nc, rfl⟩ := row_slice hn
      have HBA := Lib.hid (below_chain HBW.out hba HBW.out.size)
      have CS := r10same_walk _ _ l l wA ((HM9.out.below HB.out).below hba) (HR.out.below HBA.out) (by omega) (by omega)
      rw [show decide (l = l) = true by simp] at CS
      clear CT hn hba
      cases bad with
      | false =>
        go_wp2_with fail
        refine CS.mono ?_
        rintro e wB ⟨rfl, hbB⟩
        have HBB := Lib.hid (below_chain HBA.out hbB HBA.out.size)
        have CA := awake13_walk wB (HT.out.below HBB.out)
        clear CS hbB
        go_wp2_with fail
        refine CA.mono ?_
        rintro e wy ⟨rfl, hby⟩
        have hBy := below_chain HBB.out hby (Below.size HBB.out)
        go_wp2
        go_ret
        exact ⟨rfl, hBy⟩
      | true =>
        go_wp2_with fail
        refine CS.mono ?_
        rintro e wB ⟨rfl, hbB⟩
        have HBB := Lib.hid (below_chain HBA.out hbB HBA.out.size)
        have CA := awake13_walk wB (HT.out.below HBB.out)
        clear CS hbB
        go_wp2_with fail
        refine CA.mono ?_
        rintro e wy ⟨rfl, hby⟩
        have hBy := below_chain HBB.out hby (Below.size HBB.out)
        go_wp2
        go_ret
        exact ⟨rfl, hBy⟩
end Go.Proofs.YtkejdbidomlonaaGreatDoor
