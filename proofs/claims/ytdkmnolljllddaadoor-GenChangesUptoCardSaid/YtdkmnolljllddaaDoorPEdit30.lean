/- The program's edited trees by a seed. -/
import Derived.Test.YtdkmnolljllddaaDoorJGenL
import Derived.Test.YtdkmnolljllddaaDoorGen
import Derived.Test.YtdkmnolljllddaaDoorPPut10
import Derived.Test.YtdkmnolljllddaaDoorCloItem
import Derived.Test.YtdkmnolljllddaaDoorDelItem
import Derived.Test.YtdkmnolljllddaaDoorJTail
namespace Go.Proofs.YtdkmnolljllddaaDoor
open Go.RowKit

set_option maxHeartbeats 1100000 in
set_option maxRecDepth 100000 in
theorem pdirx_walk (x : Itm) (w : World) :
    Calls Tryd.prog 52 (#[ItV x] ++ #[]) w fun e w' => e = .returned (.bool x.2.1) ∧ Below w.heap.size w w' := by
  obtain ⟨p, dd, ex, dt⟩ := x
  have hb0 : Below w.heap.size w (w.alloc (.cells #[S p, .bool dd, .bool ex, S dt] 32)) := (Below.refl _ _).alloc (Nat.le_refl _) _
  have HB := Lib.hid hb0
  clear hb0
  have r1 := cell_new w #[S p, .bool dd, .bool ex, S dt] 32 1 rfl
  show Calls Tryd.prog _ #[.agg #[S p, .bool dd, .bool ex, S dt]] _ _
  go_enter Tryd.func52, Tryd.ntmps52
  go_wp2
  go_ret
  exact ⟨rfl, HB.out⟩

def BoxS (b : Nat) (X : Obj) (w : World) : Prop := w.heap[b]? = some X

set_option maxHeartbeats 4000000 in
set_option maxRecDepth 100000 in
theorem pedit_walk (v : Value) (l : List Itm) (s : Int) (w : World) (hr : ItRow w v l) (hcnt : l.length ≤ 10000) (hu : upT (l.map (·.1))) (hs : sizeT l ≤ 1000000000) (hM : Mx w) (hpl : ∀ x ∈ l, x.1.length ≤ 1100000) (hdl : ∀ x ∈ l, x.2.2.2.length ≤ 100000) :
    Calls Tryd.prog 27 #[v, .int .u64 s] w fun e w' => ∃ v', e = .returned v' ∧ ItRow w' v' (editT l s) ∧ Below w.heap.size w w' := by
  have HM := Lib.hid hM
  have HR := Lib.hid hr
  obtain ⟨a, c, rfl, hc, hm, hx⟩ := hr
  have CC := cloItm_walk w.heap.size a l.length c (l.flatMap itC) w (Nat.le_refl _) (by omega) (flat_lenK (f := itC) (K := 4) (fun _ => rfl) l) (row_flatK (K := 4) (fun _ => rfl) (by decide) HR.out) (it_one l)
  have HDD := Lib.hid (show editT l s = if filesT l = [] then l else (putT l (newT l s)).1 from rfl)
  have HX2 := Lib.hid (show newT l s = plusT (pickT l s) ((numberG s 2).toNat % ((pickT l s).2.2.2.length + 1)) from rfl)
  have HPK := Lib.hid (show pickT l s = (filesT l).getD ((numberG s 1).toNat % (filesT l).length) ([], false, false, []) from rfl)
  have HMEM := Lib.hid (fun h : filesT l ≠ [] => (pickT_mem (s := s) h).1)
  have hfl : (filesT l).length ≤ l.length := List.length_filter_le _ _
  rw [numberG_two] at HX2
  rw [numberG_one] at HPK
  have r1 := outG_range s
  have r2 := outG_range (stepG s)
  generalize editT l s = ed at *
  generalize newT l s = nw at *
  generalize pickT l s = pk at *
  generalize hs2 : stepG s = s1 at *
  have HS1 := Lib.hid hs2
  obtain ⟨n1, hn1⟩ : ∃ n1, outG s1 = n1 := ⟨_, rfl⟩
  rw [hn1] at HPK r1
  have HN1 := Lib.hid hn1
  clear hs2 hx hM hn1
  go_enter Tryd.func27, Tryd.ntmps27
  go_wp2_with fail
  refine CC.mono ?_
  rintro e w1 ⟨v1, rfl, hown1, hb1⟩
  have hrow1 := Row.of_ownsK (K := 4) (f := itC) (fun _ => rfl) hown1
  have HDEL := Lib.hid (delItm_walk 52 #[] (fun x => x.2.1) w.heap.size v1 l w1 hown1 (by omega) hb1.size (enters_of Tryd.func52 (by kernel_rfl) rfl) hrow1
      (fun x w' _ => pdirx_walk x w'))
  clear hown1 hrow1 CC
  go_wp2_with fail
  refine HDEL.out.mono ?_
  rintro e w2 ⟨v2, rfl, hown2, hb2⟩
  have hB2 : Below w.heap.size w w2 := hb1.trans hb2
  have hr2 : ItRow w2 v2 (filesT l) := Row.of_ownsK (K := 4) (f := itC) (fun _ => rfl) hown2
  clear HDEL hown2 hb1 hb2
  generalize filesT l = fs at *
  obtain ⟨a2, c2, rfl, hc2, hm2, hx2⟩ := hr2
  by_cases hfs : fs = []
  · have hl0 : ((fs.length : Int) == 0) = true := by rw [hfs]; rfl
    have HD := Lib.hid (HDD.out.trans (if_pos hfs))
    clear hfs
    go_wp2
    go_ret
    exact ⟨_, rfl, by rw [HD.out]; exact HR.out.below hB2, hB2⟩
  have hpos : 0 < fs.length := List.length_pos_iff.2 hfs
  have hl0 : ((fs.length : Int) == 0) = false := by rw [beq_eq_false_iff_ne]; omega
  have HD := Lib.hid (HDD.out.trans (if_neg hfs))
  have hmem := HMEM.out hfs
  have hpp := hpl _ hmem
  have hpd := hdl _ hmem
  clear hfs HMEM HDD hmem
  obtain ⟨K, hK⟩ : ∃ K, n1.toNat % fs.length = K := ⟨_, rfl⟩
  have hKl : K < fs.length := by rw [← hK]; exact Nat.mod_lt _ hpos
  rw [hK] at HPK
  have hK2 : n1.tmod (fs.length : Int) = (K : Int) := by rw [Int.tmod_eq_emod_of_nonneg r1.1, ← hK]; push_cast; rw [Int.toNat_of_nonneg r1.1]
  have hfw : IntKind.u64.wrap (fs.length : Int) = (fs.length : Int) := by simp only [IntKind.wrap, IntKind.bits, IntKind.signed]; simp; omega
  have hpk : fs[K] = pk := by rw [HPK.out, List.getD_eq_getElem?_getD, List.getElem?_eq_getElem hKl]; rfl
  rcases hx2 with hx2 | ⟨b, o, rfl, hx2⟩
  · exfalso; rw [hx2] at hpos; simp at hpos
  obtain ⟨hq1, hq2, hq3, hq4⟩ := it_cells hx2 hKl
  rw [hpk] at hq1 hq2 hq3 hq4
  clear hx2 hpk hK HPK
  go_wp2_with fail
  refine (numbers_walk s w2).mono ?_
  rintro e w3 ⟨rfl, hw3⟩
  have hsd3 : SeedAt w3 w2.heap.size s := by rw [hw3]; exact heap_alloc_new _ _
  have hb3 : Below w2.heap.size w2 w3 := by rw [hw3]; exact (Below.refl _ _).alloc (Nat.le_refl _) _
  have hB3 := below_chain hB2 hb3 hB2.size
  clear hw3
  have CN1 := next_walk w2.heap.size s w3 hsd3
  rw [HS1.out, HN1.out] at CN1
  go_wp2_with fail
  refine CN1.mono ?_
  rintro e w4 ⟨rfl, hw4⟩
  have hB4 : Below w.heap.size w w4 := by rw [hw4]; exact hB3.setCell (p := ⟨w2.heap.size, 0, none⟩) hB2.size _
  have hb4 : Below w2.heap.size w2 w4 := by rw [hw4]; exact hb3.setCell (p := ⟨w2.heap.size, 0, none⟩) (Nat.le_refl _) _
  have hsd4 : SeedAt w4 w2.heap.size s1 := by rw [hw4]; exact hsd3.next s1
  obtain ⟨pp, pd, pe, pt⟩ := pk
  simp only at hq1 hq2 hq3 hq4 hpp hpd HX2
  replace hq1 := cell_below hb4 hq1
  replace hq2 := cell_below hb4 hq2
  replace hq3 := cell_below hb4 hq3
  replace hq4 := cell_below hb4 hq4
  clear hw4 hsd3 hb3 hb4 CN1 hB3
  obtain ⟨w5, hw5, hz5, hsd5, hB5⟩ : ∃ w5, w5 = w4.alloc (.cells #[S pp, .bool pd, .bool pe, S pt] 32) ∧ w5.heap[w4.heap.size]? = some (.cells #[S pp, .bool pd, .bool pe, S pt] 32 (0, 0)) ∧ SeedAt w5 w2.heap.size s1 ∧ Below w.heap.size w w5 :=
    ⟨_, rfl, heap_alloc_new _ _, hsd4.kept ((Below.refl _ _).alloc (Nat.le_refl _) _), hB4.alloc hB4.size _⟩
  have hgl := hB4.size
  have hgs := heap_lt hsd4
  go_upto_region 6 with fail
  rw [← hw5]
  clear hw5 hq1 hq2 hq3 hq4 hsd4 hB4
  generalize w4.heap.size = g at *
  obtain ⟨w6, hw6, hz6, hsd6, hB6⟩ : ∃ w6 : World, w6 = { w5 with drawn := w5.drawn + 1 } ∧ w6.heap[g]? = some (.cells #[S pp, .bool pd, .bool pe, S pt] 32 (0, 0)) ∧ SeedAt w6 w2.heap.size s1 ∧ Below w.heap.size w w6 :=
    ⟨_, rfl, hz5, hsd5, ⟨hB5.os, hB5.tape, hB5.output, hB5.size, hB5.block⟩⟩
  (refine wp_region_held (S := BoxS g (.cells #[S pp, .bool pd, .bool pe, S pt] 32 (0, 0))) (by kernel_rfl) ?_)
  rw [← hw6]
  clear hw6 hz5 hsd5 hB5
  have CN2 := next_walk w2.heap.size s1 w6 hsd6
  obtain ⟨A, hA⟩ : ∃ A, (outG (stepG s1)).toNat % (pt.length + 1) = A := ⟨_, rfl⟩
  have hAl : A ≤ pt.length := by rw [← hA]; have := Nat.mod_lt (outG (stepG s1)).toNat (show 0 < pt.length + 1 by omega); omega
  rw [hA] at HX2
  have hA2 : (outG (stepG s1)).tmod ((pt.length : Int) + 1) = (A : Int) := by rw [Int.tmod_eq_emod_of_nonneg r2.1, ← hA]; push_cast; rw [Int.toNat_of_nonneg r2.1]
  have hw1 : IntKind.i64.wrap ((pt.length : Int) + 1) = (pt.length : Int) + 1 := by rw [IntKind.wrap_i64]; omega
  have hw2 : IntKind.u64.wrap ((pt.length : Int) + 1) = (pt.length : Int) + 1 := by simp only [IntKind.wrap, IntKind.bits, IntKind.signed]; simp; omega
  have hnz : ¬ ((pt.length : Int) + 1 = 0) := by omega
  clear hA
  generalize outG (stepG s1) = n2 at *
  (refine wpAnyH_take (i := 0) (v := ?_) rfl (by kernel_rfl) (by kernel_rfl) (by kernel_rfl) (fun _ _ _ h => h) (Or.inl ⟨by rfl, ?_⟩) (by exact hz6) ?_; rotate_left; (intro w9 hS9; skip; go_simp; try with_reducible rfl))
  (refine wpAnyH_take (i := 2) (v := ?_) rfl (by kernel_rfl) (by kernel_rfl) (by kernel_rfl) (fun _ _ _ h => h) (Or.inl ⟨by rfl, ?_⟩) (by exact hz6) ?_; rotate_left; (intro w9 hS9; skip; go_simp; try with_reducible rfl))
  (refine wpAnyH_take (i := 3) (v := ?_) rfl (by kernel_rfl) (by kernel_rfl) (by kernel_rfl) (fun _ _ _ h => h) (Or.inl ⟨by rfl, ?_⟩) (by exact hz6) ?_; rotate_left; (intro w9 hS9; (have q3 := heap_cell hS9 (j := 3) (v := S pt) rfl); go_simp; try with_reducible rfl))
  (refine wpAnyH_take (i := 4) (v := ?_) rfl (by kernel_rfl) (by kernel_rfl) (by kernel_rfl) (fun _ _ _ h => h) (Or.inl ⟨by rfl, ?_⟩) (by exact hz6) ?_; rotate_left; (intro w9 hS9; skip; go_simp; try with_reducible rfl))
  (refine wpAnyH_take (i := 5) (v := ?_) rfl (by kernel_rfl) (by kernel_rfl) (by kernel_rfl) (fun _ _ _ h => h) (Or.inl ⟨by rfl, ?_⟩) (by exact hz6) ?_; rotate_left; (intro w9 hS9; skip; go_simp; try with_reducible rfl))
  (refine wpAnyH_take (i := 6) (v := ?_) rfl (by kernel_rfl) (by kernel_rfl) (by kernel_rfl) (fun _ _ _ h => h) (Or.inl ⟨by rfl, ?_⟩) (by exact hz6) ?_; rotate_left; (intro w9 hS9; skip; go_simp; try with_reducible rfl))
  refine wpAnyH_one (i := 1) (by kernel_rfl) rfl (fun K hK => ?_)
  go_simp
  refine CN2.mono ?_
  rintro e w7 ⟨rfl, hw7⟩
  have hB7 : Below w.heap.size w w7 := by rw [hw7]; exact hB6.setCell (p := ⟨w2.heap.size, 0, none⟩) hB2.size _
  have hz7 : w7.heap[g]? = some (.cells #[S pp, .bool pd, .bool pe, S pt] 32 (0, 0)) := by
    rw [hw7]; exact (Below.heap_setCell _ _ _ _ (show g ≠ w2.heap.size by omega)).trans hz6
  refine hK _ _ hz7 ?_
  clear hK K hw7 hz6 hsd6 hB6 CN2
  (refine wpAnyH_one (i := 7) (by kernel_rfl) rfl (fun K hK => ?_); go_simp; refine hK _ _ (hz7) ?_; clear hK K)
  (refine wpAnyH_one (i := 8) (by kernel_rfl) rfl (fun K hK => ?_); go_simp; refine hK _ _ (hz7) ?_; clear hK K)
  (refine wpAnyH_done (by kernel_rfl) ?_ _)
  obtain ⟨P, hP⟩ : ∃ P, pt.take A = P := ⟨_, rfl⟩
  obtain ⟨Q, hQ⟩ : ∃ Q, pt.drop A = Q := ⟨_, rfl⟩
  have hPl : P.length ≤ 100000 := by rw [← hP, List.length_take]; omega
  have hQl : Q.length ≤ 100000 := by rw [← hQ, List.length_drop]; omega
  have hc1 : ({ data := pt.toArray } : ByteArray).extract 0 A = ⟨P.toArray⟩ := by rw [ba_cut, cutL_head, hP]
  have hc2 : ({ data := pt.toArray } : ByteArray).extract A pt.length = ⟨Q.toArray⟩ := by rw [ba_cut, cutL_tail _ _ _ (Nat.le_refl _), hQ]
  obtain ⟨R, hR, hRl⟩ : ∃ R, P ++ [43] = R ∧ R.length ≤ 100001 := ⟨_, rfl, by simp; omega⟩
  obtain ⟨T, hT, hTl⟩ : ∃ T, R ++ Q = T ∧ T.length ≤ 300000 := ⟨_, rfl, by simp; omega⟩
  have hcat1 : (⟨P.toArray⟩ : ByteArray) ++ (⟨#[43]⟩ : ByteArray) = ⟨R.toArray⟩ := by rw [← hR]; exact ba_cat P [43]
  have hcat2 : (⟨R.toArray⟩ : ByteArray) ++ (⟨Q.toArray⟩ : ByteArray) = ⟨T.toArray⟩ := by rw [← hT]; exact ba_cat R Q
  have HNW := Lib.hid (show nw = (pp, pd, pe, T) by rw [HX2]; unfold plusT; simp only; rw [← hT, ← hR, ← hP, ← hQ])
  have hAl' : (A : Int) ≤ (pt.length : Int) := by omega
  have q3 := LaterOf.cell (box4 hz7).1.2.2.2
  clear hP hQ hR hT HX2
  go_upto_region 7 with fail
  (refine wp_tail_quick 11 1 rfl (by kernel_rfl) (by kernel_rfl) (by kernel_rfl) (by kernel_rfl) ?_; simp only [List.take_succ_cons, List.take_zero]; (repeat (go_big_quiet_step (fail))); refine wpQuiet_nil ?_; intro _ hw1; obtain ⟨lw, hw2⟩ := hw1; subst hw2)
  have hz8 := (lw.below.block g (heap_lt hz7)).trans hz7
  have hB8 := below_chain hB7 lw.below hB7.size
  obtain ⟨⟨-, -, -, c3⟩, ⟨-, -, -, f3⟩, ⟨-, -, -, s3⟩⟩ := box4 hz8
  clear q3 hz7 hB7
  (refine wpAny_ready (rs := [11]) (by kernel_rfl) (by simp) ?_; refine AllReady.cons rfl (fun K hK => ?_) AllReady.nil; go_simp; refine hK _ _ ?_; clear hK K)
  refine wpAny_done (by kernel_rfl) ?_ _
  obtain ⟨w9, hw9, hz9, hB9⟩ : ∃ w9, w9 = lw.world.setCell ⟨g, 3, none⟩ (S T) ∧ w9.heap[g]? = some (.cells #[S pp, .bool pd, .bool pe, S T] 32 (0, 0)) ∧ Below w.heap.size w w9 :=
    ⟨_, rfl, heap_set_cell hz8 _, below_setT hB8 (by omega) 3 _⟩
  rw [← hw9]
  clear hw9 hz8 hB8 f3 s3 c3
  obtain ⟨⟨z0, z1, z2, z3⟩, -, -⟩ := box4 hz9
  have CP := pput10_walk (.slice a l.length c) l (pp, pd, pe, T) w9 (HR.out.below hB9) (by omega) hu hs (HM.out.below hB9) hpl hpp (by simp only; omega)
  clear hz9
  go_wp2_with fail
  refine CP.mono ?_
  rintro e w10 ⟨v10, rfl, hr10, hb10⟩
  rw [← HNW.out, ← HD.out] at hr10
  go_wp2
  go_ret
  exact ⟨_, rfl, hr10, below_chain hB9 hb10 hB9.size⟩
end Go.Proofs.YtdkmnolljllddaaDoor
