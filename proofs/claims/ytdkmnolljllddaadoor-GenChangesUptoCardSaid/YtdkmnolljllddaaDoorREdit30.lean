/- The reference's edited trees by a seed. -/
import Derived.Test.YtdkmnolljllddaaDoorJGenL
import Derived.Test.YtdkmnolljllddaaDoorR30
import Derived.Test.YtdkmnolljllddaaDoorR10g
import Derived.Test.YtdkmnolljllddaaDoorJTail
import Derived.Test.YtdkmnolljllddaaDoorRowG
namespace Go.Proofs.YtdkmnolljllddaaDoor
open Go.RowKit

theorem infoI64 : (Tryd.prog.info? 3).map (fun i => (i.zero, i.size, i.bytes)) = some (some (.int .i64 0), 1, 8) := by kernel_rfl
abbrev zItG : Itm := ([], false, false, [])
def idxK (l : List Itm) (k : Nat) : List Nat := (List.range k).filter (fun i => !(l.getD i zItG).2.1)
theorem idxK_step (l : List Itm) (k : Nat) : idxK l (k + 1) = idxK l k ++ if (l.getD k zItG).2.1 = true then [] else [k] := by
  unfold idxK
  rw [List.range_succ, List.filter_append]
  congr 1
  rw [List.filter_cons, List.filter_nil]
  cases (l.getD k zItG).2.1 <;> rfl
theorem ix_flat (l : List Nat) : l.map (fun i : Nat => Value.int .i64 i) = l.flatMap (fun i : Nat => [Value.int .i64 i]) := by induction l with
  | nil => rfl
  | cons x l ih => rw [List.map_cons, List.flatMap_cons, ih]; rfl
theorem idxK_lt {l : List Itm} {k i : Nat} (h : i ∈ idxK l k) : i < k := List.mem_range.1 (List.mem_filter.1 h).1
theorem idxK_len (l : List Itm) (k : Nat) : (idxK l k).length ≤ k := by
  have := List.length_filter_le (fun i => !(l.getD i zItG).2.1) (List.range k)
  rw [List.length_range] at this; exact this
theorem idxK_files (l : List Itm) : ∀ k, k ≤ l.length → (l.take k).filter (fun x => !x.2.1) = (idxK l k).map (fun i => l.getD i zItG)
  | 0, _ => rfl
  | k + 1, h => by
    have hk : k < l.length := h
    rw [List.take_succ_eq_append_getElem hk, List.filter_append, idxK_files l k (by omega), idxK_step, List.map_append]
    congr 1
    have e : l.getD k zItG = l[k] := by rw [List.getD_eq_getElem?_getD, List.getElem?_eq_getElem hk]; rfl
    rw [e]
    cases hd : l[k].2.1
    · simp only [List.filter_cons, List.filter_nil, hd, Bool.not_false, if_true]
      rw [if_neg (by simp), List.map_cons, List.map_nil, e]
    · simp [hd]
theorem files_idx (l : List Itm) : filesT l = (idxK l l.length).map (fun i => l.getD i zItG) := by
  have := idxK_files l l.length (Nat.le_refl _)
  rw [List.take_of_length_le (Nat.le_refl _)] at this
  exact this

set_option maxHeartbeats 4000000 in
set_option maxRecDepth 100000 in
theorem redit_walk (v : Value) (l : List Itm) (s : Int) (w : World) (hr : ItRow w v l) (hcnt : l.length ≤ 10000) (hu : upT (l.map (·.1))) (hs : sizeT l ≤ 1000000000) (hpl : ∀ x ∈ l, x.1.length ≤ 1100000) (hdl : ∀ x ∈ l, x.2.2.2.length ≤ 100000) :
    Calls Tryd.prog 28 #[v, .int .u64 s] w fun e w' => ∃ v', e = .returned v' ∧ ItRow w' v' (editT l s) ∧ Below w.heap.size w w' := by
  obtain ⟨i0, hi, hz0, hz1, hz2⟩ := info_parts infoI64
  have HR := Lib.hid hr
  obtain ⟨a, c, rfl, hc, hm, hx⟩ := hr
  have HX := Lib.hid hx
  have HDD := Lib.hid (show editT l s = if filesT l = [] then l else (putT l (newT l s)).1 from rfl)
  have HX2 := Lib.hid (show newT l s = plusT (pickT l s) ((numberG s 2).toNat % ((pickT l s).2.2.2.length + 1)) from rfl)
  have HPK := Lib.hid (show pickT l s = (filesT l).getD ((numberG s 1).toNat % (filesT l).length) ([], false, false, []) from rfl)
  have HMEM := Lib.hid (fun h : filesT l ≠ [] => (pickT_mem (s := s) h).1)
  have HFI := Lib.hid (files_idx l)
  have r1 : 0 ≤ numberG s 1 ∧ numberG s 1 < 2147483648 := by rw [numberG_one]; exact outG_range s
  have r2 : 0 ≤ numberG s 2 ∧ numberG s 2 < 2147483648 := by rw [numberG_two]; exact outG_range _
  have CN1 := fun w => rnumber_walk s 1 w
  have CN2 := fun w => rnumber_walk s 2 w
  generalize editT l s = ed at *
  generalize newT l s = nw at *
  generalize pickT l s = pk at *
  generalize numberG s 1 = n1 at *
  generalize numberG s 2 = n2 at *
  clear hx
  go_enter Tryd.func28, Tryd.ntmps28
  go_wp2
  go_loopw [5, 6] (fun u i wr => ∃ k : Nat, k ≤ l.length ∧ i = .int .i64 k ∧ wr.ownsRow w.heap.size 3 1 u (idxK l k).length ((idxK l k).map (fun i : Nat => Value.int .i64 i)) ∧ Below w.heap.size w wr) (fun _ i _ => l.length - (intOf i).toNat)
  case atStart => exact ⟨0, Nat.zero_le _, rfl, World.ownsRow_nil _ _ _ _, Below.refl _ _⟩
  case round =>
    obtain ⟨k, hk, rfl, hown, hB⟩ := hrel
    have hsz := hB.size
    by_cases h1 : k < l.length
    · have h1' : (k : Int) < (l.length : Int) := by omega
      have hx := HX.out
      rcases hx with hx | ⟨b, o, rfl, hx⟩
      · exfalso; rw [hx] at h1; simp at h1
      have hc2 := cell_below hB (it_cells hx h1).2.1
      have HS := Lib.hid (idxK_step l k)
      have e : l.getD k zItG = l[k] := by rw [List.getD_eq_getElem?_getD, List.getElem?_eq_getElem h1]; rfl
      rw [e] at HS
      have hil := idxK_len l k
      obtain ⟨ix, hix⟩ : ∃ ix, idxK l k = ix := ⟨_, rfl⟩
      rw [hix] at hown HS hil
      have HE := Lib.hid hix
      clear hx e hix
      cases hd : l[k].2.1 with
      | true =>
        rw [hd] at hc2 HS
        have HS2 := Lib.hid (show idxK l (k + 1) = ix by rw [HS.out]; simp)
        clear hd HS
        go_wp2
        go_roundw
        case rel => exact ⟨k + 1, by omega, by go_num, by rw [HS2.out]; exact hown, hB⟩
        case measure => simp [intOf]; omega
      | false =>
        rw [hd] at hc2 HS
        have HS2 := Lib.hid (show (idxK l (k + 1)).length = ix.length + 1 ∧ (idxK l (k + 1)).map (fun i : Nat => Value.int .i64 i) = ix.map (fun i : Nat => Value.int .i64 i) ++ [.int .i64 k] by rw [HS.out]; simp)
        clear hd HS
        go_wp2_with (at_builtin; refine wpList_append_own _ rfl _ _ 77 rfl w.heap.size 3 i0 (.int .i64 0) 1 8 Tryd.underlying77 hi hz0 hz1 hz2 rfl (by decide) _ _ _ rfl (hown.alloc _) ⟨wr.heap.size, 0, none⟩ 1 1 [.int .i64 k] rfl rfl (new_cell _ _ _) (by intro u hu; simp at hu; subst hu; rfl) (by unfold maxLen; omega) (by omega) (by simp; omega) ?_)
        intro v' w2 hown' hgrow _
        have hB1 : Below w.heap.size w w2 := (hB.alloc hsz _).grown hgrow (by simp; omega) (fun j hj => (hown.lt j hj).1)
        clear hgrow hown hB
        go_wp2
        go_roundw
        case rel => exact ⟨k + 1, by omega, by go_num, by rw [HS2.out.1, HS2.out.2]; exact hown', hB1⟩
        case measure => simp [intOf]; omega
    · have h1' : ¬ (k : Int) < (l.length : Int) := by omega
      obtain rfl : k = l.length := by omega
      have hil := idxK_len l l.length
      have hlt : ∀ i ∈ idxK l l.length, i < l.length := fun i h => idxK_lt h
      have hfi := HFI.out
      generalize idxK l l.length = ix at *
      have hfl : (filesT l).length = ix.length := by rw [hfi, List.length_map]
      rw [show ix.map (fun i : Nat => Value.int .i64 i) = ix.flatMap (fun i : Nat => [Value.int .i64 i]) from ix_flat ix] at hown
      have hvr := Row.of_ownsK (K := 1) (f := fun i : Nat => [Value.int .i64 i]) (fun _ => rfl) hown
      obtain ⟨va, vc, rfl, -, hvm, hvx⟩ := hvr
      by_cases hfs : filesT l = []
      · have hl0 : ((ix.length : Int) == 0) = true := by rw [← hfl, hfs]; rfl
        have HD := Lib.hid (HDD.out.trans (if_pos hfs))
        clear hfs
        go_wp2
        go_ret
        exact ⟨_, rfl, by rw [HD.out]; exact HR.out.below hB, hB⟩
      have hpos : 0 < ix.length := by rw [← hfl]; exact List.length_pos_iff.2 hfs
      have hl0 : ((ix.length : Int) == 0) = false := by rw [beq_eq_false_iff_ne]; omega
      have HD := Lib.hid (HDD.out.trans (if_neg hfs))
      have hmem := HMEM.out hfs
      have hpp := hpl _ hmem
      have hpd := hdl _ hmem
      rw [hfl] at HPK
      clear hfs HMEM HDD hmem
      obtain ⟨K, hK⟩ : ∃ K, n1.toNat % ix.length = K := ⟨_, rfl⟩
      have hKl : K < ix.length := by rw [← hK]; exact Nat.mod_lt _ hpos
      rw [hK] at HPK
      have hK2 : n1.tmod (ix.length : Int) = (K : Int) := by rw [Int.tmod_eq_emod_of_nonneg r1.1, ← hK]; push_cast; rw [Int.toNat_of_nonneg r1.1]
      have hfw : IntKind.u64.wrap (ix.length : Int) = (ix.length : Int) := by simp only [IntKind.wrap, IntKind.bits, IntKind.signed]; simp; omega
      have hJl : ix[K] < l.length := hlt _ (List.getElem_mem hKl)
      have hpk : l[ix[K]] = pk := by
        rw [HPK.out, hfi, List.getD_eq_getElem?_getD, List.getElem?_map, List.getElem?_eq_getElem hKl]
        simp [List.getD_eq_getElem?_getD, List.getElem?_eq_getElem hJl]
      rcases hvx with hvx | ⟨b, o, rfl, hvx⟩
      · exfalso; rw [hvx] at hpos; simp at hpos
      have hvi := hvx K _ (List.getElem?_eq_getElem hKl) 0 _ rfl
      simp only [List.length_cons, List.length_nil, Nat.add_zero, Nat.zero_add, Nat.mul_one] at hvi
      have hx := HX.out
      rcases hx with hx | ⟨b2, o2, rfl, hx⟩
      · exfalso; rw [hx] at hJl; simp at hJl
      obtain ⟨hq1, hq2, hq3, hq4⟩ := it_cells hx hJl
      rw [hpk] at hq1 hq2 hq3 hq4
      generalize ix[K] = J at *
      replace hq1 := cell_below hB hq1
      replace hq2 := cell_below hB hq2
      replace hq3 := cell_below hB hq3
      replace hq4 := cell_below hB hq4
      clear hx hvx hpk hK HPK hlt hfi hfl
      have hJl2 : (J : Int) < (l.length : Int) := by omega
      go_wp2_with fail
      refine (CN1 _).mono ?_
      rintro e w4 ⟨rfl, hb4⟩
      have hB4 := below_chain hB hb4 hB.size
      obtain ⟨pp, pd, pe, pt⟩ := pk
      simp only at hq1 hq2 hq3 hq4 hpp hpd HX2
      replace hq1 := cell_below hb4 hq1
      replace hq2 := cell_below hb4 hq2
      replace hq3 := cell_below hb4 hq3
      replace hq4 := cell_below hb4 hq4
      replace hvi := cell_below hb4 hvi
      clear hb4 CN1 hB
      obtain ⟨w5, hw5, hz5, hB5⟩ : ∃ w5, w5 = w4.alloc (.cells #[S pp, .bool pd, .bool pe, S pt] 32) ∧ w5.heap[w4.heap.size]? = some (.cells #[S pp, .bool pd, .bool pe, S pt] 32 (0, 0)) ∧ Below w.heap.size w w5 :=
        ⟨_, rfl, heap_alloc_new _ _, hB4.alloc hB4.size _⟩
      have hgl := hB4.size
      go_upto_region 10 with fail
      rw [← hw5]
      clear hw5 hq1 hq2 hq3 hq4 hB4 hvi
      generalize w4.heap.size = g at *
      obtain ⟨A, hA⟩ : ∃ A, n2.toNat % (pt.length + 1) = A := ⟨_, rfl⟩
      have hAl : A ≤ pt.length := by rw [← hA]; have := Nat.mod_lt n2.toNat (show 0 < pt.length + 1 by omega); omega
      rw [hA] at HX2
      have hA2 : n2.tmod ((pt.length : Int) + 1) = (A : Int) := by rw [Int.tmod_eq_emod_of_nonneg r2.1, ← hA]; push_cast; rw [Int.toNat_of_nonneg r2.1]
      have hw1 : IntKind.i64.wrap ((pt.length : Int) + 1) = (pt.length : Int) + 1 := by rw [IntKind.wrap_i64]; omega
      have hw2 : IntKind.u64.wrap ((pt.length : Int) + 1) = (pt.length : Int) + 1 := by simp only [IntKind.wrap, IntKind.bits, IntKind.signed]; simp; omega
      have hw3 : IntKind.i64.wrap (A : Int) = (A : Int) := by rw [IntKind.wrap_i64]; omega
      have hnz : ¬ ((pt.length : Int) + 1 = 0) := by omega
      clear hA
      have q3 := LaterOf.cell (box4 hz5).1.2.2.2
      (refine wp_region_later (by kernel_rfl) (by kernel_rfl) ?_; (repeat (go_big_quiet_step ((go_at_call 20; exact LaterOf.call _ (CN2 _))))); refine wpQuiet_nil ?_; intro _ hw1; obtain ⟨lw, hw2⟩ := hw1; subst hw2)
      have hz7 := (lw.below.block g (heap_lt hz5)).trans hz5
      have hB7 := below_chain hB5 lw.below hB5.size
      clear q3 hz5 hB5
      generalize lw.world = w7 at *
      obtain ⟨P, hP⟩ : ∃ P, pt.take A = P := ⟨_, rfl⟩
      obtain ⟨Q, hQ⟩ : ∃ Q, pt.drop A = Q := ⟨_, rfl⟩
      have hPl : P.length ≤ 100000 := by rw [← hP, List.length_take]; omega
      have hQl : Q.length ≤ 100000 := by rw [← hQ, List.length_drop]; omega
      have hc1 : ({ data := pt.toArray } : ByteArray).extract 0 A = ⟨P.toArray⟩ := by rw [ba_cut, cutL_head, hP]
      have hc2 : ({ data := pt.toArray } : ByteArray).extract A pt.length = ⟨Q.toArray⟩ := by rw [ba_cut, cutL_tail _ _ _ (Nat.le_refl _), hQ]
      obtain ⟨R, hR, hRl⟩ : ∃ R, P ++ [43] = R ∧ R.length ≤ 100001 := ⟨_, rfl, by simp; omega⟩
      obtain ⟨T, hT, hTl⟩ : ∃ T, R ++ Q = T ∧ T.length ≤ 300000 := ⟨_, rfl, by simp; omega⟩
      have hcat1 : (⟨P.toArray⟩ : ByteArray) ++ (⟨#[43]⟩ : ByteArray) = ⟨R.toArray⟩ := by rw [← hR]; exact ba_cat P [43]
      have hcat2 : (⟨R.toArray⟩ : ByteArray) ++ (⟨Q.toArray⟩ : ByteArray) = ⟨T.toArray⟩ := by rw [← hT]; exact ba_cat R Q
      have HNW := Lib.hid (show nw = (pp, pd, pe, T) by rw [HX2.out]; unfold plusT; simp only; rw [← hT, ← hR, ← hP, ← hQ])
      have hAl' : (A : Int) ≤ (pt.length : Int) := by omega
      have q3 := LaterOf.cell (box4 hz7).1.2.2.2
      clear hP hQ hR hT HX2
      go_upto_region 11 with fail
      (refine wp_tail_quick 11 1 rfl (by kernel_rfl) (by kernel_rfl) (by kernel_rfl) (by kernel_rfl) ?_; simp only [List.take_succ_cons, List.take_zero]; (repeat (go_big_quiet_step (fail))); refine wpQuiet_nil ?_; intro _ hw1; obtain ⟨lw, hw2⟩ := hw1; subst hw2)
      have hz8 := (lw.below.block g (heap_lt hz7)).trans hz7
      have hB8 := below_chain hB7 lw.below hB7.size
      obtain ⟨⟨-, -, -, c3⟩, ⟨-, -, -, f3⟩, ⟨-, -, -, s3⟩⟩ := box4 hz8
      clear q3 hz7 hB7
      (refine wpAny_ready (rs := [11]) (by kernel_rfl) (by simp) ?_; refine AllReady.cons rfl (fun K hK => ?_) AllReady.nil; go_simp; refine hK _ _ ?_; clear hK K)
      refine wpAny_done (by kernel_rfl) ?_ _
      obtain ⟨w9, hw9, hz9, hB9⟩ : ∃ w9, w9 = lw.world.setCell ⟨g, 3, none⟩ (S T) ∧ w9.heap[g]? = some (.cells #[S pp, .bool pd, .bool pe, S T] 32 (0, 0)) ∧ Below w.heap.size w w9 :=
        ⟨_, rfl, heap_set_cell hz8 _, below_setT hB8 (by omega) 3 _⟩
      rw [← hw9]
      clear hw9 hz8 hB8 f3 s3 c3
      obtain ⟨⟨z0, z1, z2, z3⟩, -, -⟩ := box4 hz9
      have CP := r10put_walk _ l (pp, pd, pe, T) w9 (HR.out.below hB9) (by omega) hu hs hpl hpp (by simp only; omega)
      clear hz9
      go_wp2_with fail
      refine CP.mono ?_
      rintro e w10 ⟨v10, rfl, hr10, hb10⟩
      rw [← HNW.out, ← HD.out] at hr10
      go_wp2
      go_ret
      exact ⟨_, rfl, hr10, below_chain hB9 hb10 hB9.size⟩
end Go.Proofs.YtdkmnolljllddaaDoor
