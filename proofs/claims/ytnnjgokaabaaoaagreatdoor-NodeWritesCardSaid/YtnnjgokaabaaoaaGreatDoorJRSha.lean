/- The reference's sums. The reference's words of a block. The reference's block of a sum. The reference's sum of a text. -/
import Derived.Test.YtnnjgokaabaaoaaGreatDoorJSha
import Derived.Test.YtnnjgokaabaaoaaGreatDoorJTail
import Derived.Test.YtnnjgokaabaaoaaGreatDoorRdB
import Derived.Test.YtnnjgokaabaaoaaGreatDoorRowM
import Derived.Test.YtnnjgokaabaaoaaGreatDoorCellsU
namespace Go.Proofs.YtnnjgokaabaaoaaGreatDoor
open Go.RowKit

set_option maxHeartbeats 2000000 in
set_option maxRecDepth 100000 in
theorem rot_walk (x n : Nat) (w : World) (hx : x < 4294967296) (h0 : 0 < n) (hn : n < 32) :
    Calls Tryz.prog 69 #[.int .u32 x, .int .u64 n] w fun e w' => e = .returned (.int .u32 (rotN n x : Nat)) ∧ w' = w := by
  go_enter Tryz.func69, Tryz.ntmps69
  go_wp2
  go_ret
  exact ⟨congrArg (fun z => Ending.returned (Value.int IntKind.u32 z)) (bits_rot (by omega) hx), rfl⟩

set_option maxHeartbeats 4000000 in
set_option maxRecDepth 100000 in
theorem rconst_walk (w : World) :
    Calls Tryz.prog 68 #[] w fun e w' => e = .returned (.agg (kSha.map wV).toArray) ∧ Below w.heap.size w w' := by
  go_enter Tryz.func68, Tryz.ntmps68
  go_upto_region 1 with fail
  generalize hw1 : w.alloc _ = w1
  have hz : w1.heap[w.heap.size]? = some (.cells (Array.replicate 64 (.int .u32 0)) 106 (0, 0)) := by
    rw [← hw1]
    exact heap_alloc_new _ _
  have hb : Below w.heap.size w w1 := by
    rw [← hw1]
    exact (Below.refl _ _).alloc (Nat.le_refl _) _
  clear hw1
  apply wp_region_lit
  refine wpList_build rfl 106 _ rfl (by as_aux_lemma => kernel_rfl) ?_
  refine wpList_store_row rfl 106 _ _ rfl w.heap.size (kSha.map wV).toArray rfl (by as_aux_lemma => kernel_rfl) 106 _ hz (by as_aux_lemma => kernel_rfl) rfl (by as_aux_lemma => kernel_rfl) ?_
  apply wpList_nil
  generalize hw2 : w1.setRow _ _ = w2
  have hz2 : w2.heap[w.heap.size]? = some (.cells (kSha.map wV).toArray 106 (0, 0)) := by
    rw [← hw2]
    exact setRow_heap w1 _ _ _ _ _ hz
  have hb2 : Below w.heap.size w w2 := by
    rw [← hw2]
    exact below_setRow hb (Nat.le_refl _) _
  clear hw2
  rename_i hK
  refine hK _ _ ?_
  apply wp_ret
  exact bodyPost_ret (v := .agg (kSha.map wV).toArray) (results_cell_row rfl _ _ w.heap.size 106 _ _ _ (by as_aux_lemma => kernel_rfl) hz2 Tryz.underlying106 rfl (by as_aux_lemma => kernel_rfl)) rfl ⟨rfl, hb2⟩

set_option maxHeartbeats 4000000 in
set_option maxRecDepth 100000 in
theorem rfirst_walk (w : World) :
    Calls Tryz.prog 39 #[] w fun e w' => e = .returned (.agg (h0Sha.words.map wV).toArray) ∧ Below w.heap.size w w' := by
  go_enter Tryz.func39, Tryz.ntmps39
  go_upto_region 1 with fail
  generalize hw1 : w.alloc _ = w1
  have hz : w1.heap[w.heap.size]? = some (.cells (Array.replicate 8 (.int .u32 0)) 70 (0, 0)) := by
    rw [← hw1]
    exact heap_alloc_new _ _
  have hb : Below w.heap.size w w1 := by
    rw [← hw1]
    exact (Below.refl _ _).alloc (Nat.le_refl _) _
  clear hw1
  apply wp_region_lit
  refine wpList_build rfl 70 _ rfl (by as_aux_lemma => kernel_rfl) ?_
  refine wpList_store_row rfl 70 _ _ rfl w.heap.size (h0Sha.words.map wV).toArray rfl (by as_aux_lemma => kernel_rfl) 70 _ hz (by as_aux_lemma => kernel_rfl) rfl (by as_aux_lemma => kernel_rfl) ?_
  apply wpList_nil
  generalize hw2 : w1.setRow _ _ = w2
  have hz2 : w2.heap[w.heap.size]? = some (.cells (h0Sha.words.map wV).toArray 70 (0, 0)) := by
    rw [← hw2]
    exact setRow_heap w1 _ _ _ _ _ hz
  have hb2 : Below w.heap.size w w2 := by
    rw [← hw2]
    exact below_setRow hb (Nat.le_refl _) _
  clear hw2
  rename_i hK
  refine hK _ _ ?_
  apply wp_ret
  exact bodyPost_ret (v := .agg (h0Sha.words.map wV).toArray) (results_cell_row rfl _ _ w.heap.size 70 _ _ _ (by as_aux_lemma => kernel_rfl) hz2 Tryz.underlying70 rfl (by as_aux_lemma => kernel_rfl)) rfl ⟨rfl, hb2⟩
end Go.Proofs.YtnnjgokaabaaoaaGreatDoor

namespace Go.Proofs.YtnnjgokaabaaoaaGreatDoor
open Go.RowKit

set_option maxHeartbeats 4000000 in
set_option maxRecDepth 100000 in
theorem words_walk (b : List UInt8) (hl : b.length = 64) (w : World) :
    Calls Tryz.prog 67 #[.agg (b.map bV).toArray] w fun e w' => e = .returned (.agg ((schedW b).map wV).toArray) ∧ Below w.heap.size w w' := by
  go_enter Tryz.func67, Tryz.ntmps67
  go_upto_region 2 with fail
  generalize hw1 : ((w.alloc _).alloc _).alloc _ = w1
  have hz0 : w1.heap[w.heap.size]? = some (.cells (b.map bV).toArray 72 (0, 0)) := by
    rw [← hw1, heap_alloc_old _ _ (by simp; omega)]
    exact heap_alloc2_old _ _ _
  have hz1 : w1.heap[w.heap.size + 1]? = some (.cells (Array.replicate 64 (.int .u32 0)) 106 (0, 0)) := by
    rw [← hw1, heap_alloc_old _ _ (by simp)]
    exact heap_alloc2_new _ _ _
  have hz2 : w1.heap[w.heap.size + 1 + 1]? = some (.cells (cellsW 64 ((firstW b).take 0)) 106 (0, 0)) := by
    rw [← hw1]
    exact heap_alloc3 _ _ _ _
  have hb : Below w.heap.size w w1 := by
    rw [← hw1]
    exact (((Below.refl _ _).alloc (Nat.le_refl _) _).alloc (by simp) _).alloc (by simp; omega) _
  clear hw1
  go_wp2
  go_loopw [4] (fun i wr => ∃ k : Nat, k ≤ 16 ∧ i = .int .i64 k ∧ wr.heap[w.heap.size + 1 + 1]? = some (.cells (cellsW 64 ((firstW b).take k)) 106 (0, 0)) ∧ Gro (w.heap.size + 1 + 1) w1 wr) (fun i _ => 16 - (intOf i).toNat)
  case atStart => exact ⟨0, Nat.zero_le _, rfl, hz2, gro_of (Below.refl _ _)⟩
  case round =>
    obtain ⟨k, hk, rfl, hzr, hG⟩ := hrel
    have hfl := firstW_len b
    by_cases h1 : k < 16
    · have h1' : (k : Int) < 16 := by omega
      have y0 := (hG.block w.heap.size (heap_lt hz0) (fun e => by have := Option.some.inj e; omega)).trans hz0
      have c0 := LaterOf.cell (arr_cell y0 (map_at (f := bV) (i := 4 * k) (by omega)))
      have c1 := LaterOf.cell (arr_cell y0 (map_at (f := bV) (i := 4 * k + 1) (by omega)))
      have c2 := LaterOf.cell (arr_cell y0 (map_at (f := bV) (i := 4 * k + 2) (by omega)))
      have c3 := LaterOf.cell (arr_cell y0 (map_at (f := bV) (i := 4 * k + 3) (by omega)))
      have htl : ((firstW b).take k).length = k := by rw [List.length_take]; omega
      have hwv := firstW_at (b := b) (k := k) (by omega)
      rw [wordB_at (by omega)] at hwv
      have HT := Lib.hid (List.take_succ_eq_append_getElem (l := firstW b) (i := k) (by omega))
      generalize b[4 * k] = x0 at *
      generalize b[4 * k + 1] = x1 at *
      generalize b[4 * k + 2] = x2 at *
      generalize b[4 * k + 3] = x3 at *
      unfold bV at c0 c1 c2 c3
      have HWV : Hid (bits BinOp.or IntKind.u32 (bits BinOp.or IntKind.u32 (bits BinOp.or IntKind.u32 ((x0.toNat : Int) % 4294967296 * 16777216 % 4294967296) ((x1.toNat : Int) % 4294967296 * 65536 % 4294967296)) ((x2.toNat : Int) % 4294967296 * 256 % 4294967296)) ((x3.toNat : Int) % 4294967296) = (((firstW b)[k]'(by omega) : Nat) : Int)) := Lib.hid (by
        rw [hwv, ← word_or (UInt8.toNat_lt x0) (UInt8.toNat_lt x1) (UInt8.toNat_lt x2) (UInt8.toNat_lt x3)]
        have h0 := shl_cast (s := 24) (UInt8.toNat_lt x0) (by omega)
        have h1 := shl_cast (s := 16) (UInt8.toNat_lt x1) (by omega)
        have h2 := shl_cast (s := 8) (UInt8.toNat_lt x2) (by omega)
        have h3 := UInt8.toNat_lt x3
        rw [show ((x3.toNat : Int) % 4294967296) = (x3.toNat : Int) by omega]
        rw [← h0, ← h1, ← h2]
        rfl)
      generalize (firstW b)[k]'(by omega) = wd at *
      have HZR := Lib.hid hzr
      have HG := Lib.hid hG
      have HTL := Lib.hid htl
      clear hzr hG y0 hwv htl hfl
      go_upto_region 5 with fail
      (refine wp_tail_quick 31 1 rfl (by kernel_rfl) (by kernel_rfl) (by kernel_rfl) (by kernel_rfl) ?_; simp only [List.take_succ_cons, List.take_zero]; (repeat (go_big_quiet_step (fail))); refine wpQuiet_nil ?_; intro _ hw1; obtain ⟨lw, hw2⟩ := hw1; subst hw2)
      rw [HWV.out]
      have hz4 := (lw.below.block _ (heap_lt HZR.out)).trans HZR.out
      have HG4 := Lib.hid (gro_chain HG.out lw.below)
      have f1 := arr_frozen (i := k) hz4
      have d1 := arr_cell hz4 (cellsW_zero (n := 64) (i := k) (by have := HTL.out; omega) (by omega))
      have s1 := is_some d1
      have HA := Lib.hid (arr_push' (x := wd) hz4 (by have := HTL.out; omega))
      rw [HTL.out] at HA
      clear c0 c1 c2 c3 hz4 HWV
      (refine wpAny_ready (rs := [31]) (by kernel_rfl) (by simp) ?_; refine AllReady.cons rfl (fun K hK => ?_) AllReady.nil; go_simp; refine hK _ _ ?_; clear hK K)
      refine wpAny_done (by kernel_rfl) ?_ _
      obtain ⟨w3, hw3⟩ : ∃ w3, w3 = lw.world.setCell ⟨w.heap.size + 1 + 1, k, none⟩ (.int .u32 ((wd : Nat) : Int)) := ⟨_, rfl⟩
      rw [← hw3]
      have HA2 : Hid (w3.heap[w.heap.size + 1 + 1]? = some (.cells (cellsW 64 ((firstW b).take (k + 1))) 106 (0, 0))) := by rw [hw3, HT.out]; exact HA
      have HG5 : Hid (Gro (w.heap.size + 1 + 1) w1 w3) := Lib.hid (by rw [hw3]; exact gro_set HG4.out _ _)
      clear hw3 HA f1 d1 s1
      go_wp2
      go_roundw
      case rel => exact ⟨k + 1, by omega, by go_num, HA2.out, HG5.out⟩
      case measure => simp [intOf]; omega
    · obtain rfl : k = 16 := by omega
      rw [List.take_of_length_le (by rw [hfl]; exact Nat.le_refl _)] at hzr
      rw [show ((16 : Nat) : Int) = 16 from rfl]
      go_wp2
      obtain ⟨w2, rfl⟩ : ∃ w2 : World, w2 = wr := ⟨_, rfl⟩
      have HZ1 := Lib.hid hz1
      clear hz0 hz1 hz2 hk h1
      go_loopw [5] (fun i wr => ∃ (ws : List Nat) (m : Nat), ws.length = m + 16 ∧ m ≤ 48 ∧ i = .int .i64 ((m : Int) + 16) ∧ W32 ws ∧ extW (48 - m) ws = schedW b ∧ wr.heap[w.heap.size + 1 + 1]? = some (.cells (cellsW 64 ws) 106 (0, 0)) ∧ Gro (w.heap.size + 1 + 1) w1 wr) (fun i _ => 64 - (intOf i).toNat)
      case atStart => exact ⟨firstW b, 0, hfl, by omega, rfl, firstW_32 b, rfl, hzr, hG⟩
      case round =>
        clear hzr hG hfl
        obtain ⟨ws, m, hwl, hm, rfl, h32, hext, hzr, hG⟩ := hrel
        by_cases h1 : m < 48
        · have h1' : (m : Int) + 16 < 64 := by omega
          have c0 := arr_cell hzr (cellsW_at (i := m) (by omega))
          have c1 := arr_cell hzr (cellsW_at (i := m + 1) (by omega))
          have c9 := arr_cell hzr (cellsW_at (i := m + 9) (by omega))
          have c14 := arr_cell hzr (cellsW_at (i := m + 14) (by omega))
          have HN := Lib.hid (nextW_at hwl)
          have HE := Lib.hid ((extW_one (n := 48 - m) (ws := ws) (by omega)).symm.trans hext)
          have hx1 := h32.at (i := m + 1) (by omega)
          have hx0 := h32.at (i := m) (by omega)
          have hx9 := h32.at (i := m + 9) (by omega)
          have hx14 := h32.at (i := m + 14) (by omega)
          generalize ws[m + 1] = x1 at *
          generalize ws[m] = x0 at *
          generalize ws[m + 9] = x9 at *
          generalize ws[m + 14] = x14 at *
          unfold wV at c0 c1 c9 c14
          have q0 := LaterOf.cell c0
          have q9 := LaterOf.cell c9
          have HZR := Lib.hid hzr
          have HG := Lib.hid hG
          have H32 := Lib.hid h32
          have HWL := Lib.hid hwl
          clear hzr hG h32 hext hwl
          have D1 : ∀ W : World, Calls Tryz.prog 69 #[.int .u32 x1, .int .u64 7] W fun e w' => e = .returned (.int .u32 (rotN 7 x1 : Nat)) ∧ w' = W := fun W => rot_walk x1 7 W hx1 (by decide) (by decide)
          have D2 : ∀ W : World, Calls Tryz.prog 69 #[.int .u32 x1, .int .u64 18] W fun e w' => e = .returned (.int .u32 (rotN 18 x1 : Nat)) ∧ w' = W := fun W => rot_walk x1 18 W hx1 (by decide) (by decide)
          have D3 : ∀ W : World, Calls Tryz.prog 69 #[.int .u32 x14, .int .u64 17] W fun e w' => e = .returned (.int .u32 (rotN 17 x14 : Nat)) ∧ w' = W := fun W => rot_walk x14 17 W hx14 (by decide) (by decide)
          have D4 : ∀ W : World, Calls Tryz.prog 69 #[.int .u32 x14, .int .u64 19] W fun e w' => e = .returned (.int .u32 (rotN 19 x14 : Nat)) ∧ w' = W := fun W => rot_walk x14 19 W hx14 (by decide) (by decide)
          go_wp2_with (first | (go_at_call 69; (with_reducible refine (D1 _).mono ?_); rintro r wz ⟨rfl, rfl⟩) | (go_at_call 69; (with_reducible refine (D2 _).mono ?_); rintro r wz ⟨rfl, rfl⟩) | (go_at_call 69; (with_reducible refine (D3 _).mono ?_); rintro r wz ⟨rfl, rfl⟩) | (go_at_call 69; (with_reducible refine (D4 _).mono ?_); rintro r wz ⟨rfl, rfl⟩))
          rw [ssA_val hx1, ssB_val hx14]
          clear D1 D2 D3 D4
          (refine wp_tail_quick 15 1 rfl (by kernel_rfl) (by kernel_rfl) (by kernel_rfl) (by kernel_rfl) ?_; simp only [List.take_succ_cons, List.take_zero]; (repeat (go_big_quiet_step (fail))); refine wpQuiet_nil ?_; intro _ hw1; obtain ⟨lw, hw2⟩ := hw1; subst hw2)
          rw [show ((((x0 : Int) + (ssA x1 : Nat) + x9) % 4294967296 + (ssB x14 : Nat)) % 4294967296) = ((nextW ws : Nat) : Int) by rw [HN.out]; omega]
          have hz4 := (lw.below.block _ (heap_lt HZR.out)).trans HZR.out
          have HG4 := Lib.hid (gro_chain HG.out lw.below)
          have f1 := arr_frozen (i := m + 16) hz4
          have d1 := arr_cell hz4 (cellsW_zero (n := 64) (i := m + 16) (by have := HWL.out; omega) (by omega))
          have s1 := is_some d1
          have HA := Lib.hid (arr_push' (x := nextW ws) hz4 (by have := HWL.out; omega))
          rw [HWL.out] at HA
          clear q0 q9 c0 c1 c9 c14 hz4
          (refine wpAny_ready (rs := [15]) (by kernel_rfl) (by simp) ?_; refine AllReady.cons rfl (fun K hK => ?_) AllReady.nil; go_simp; refine hK _ _ ?_; clear hK K)
          refine wpAny_done (by kernel_rfl) ?_ _
          obtain ⟨w3, hw3⟩ : ∃ w3, w3 = lw.world.setCell ⟨w.heap.size + 1 + 1, m + 16, none⟩ (.int .u32 ((nextW ws : Nat) : Int)) := ⟨_, rfl⟩
          rw [← hw3]
          have HA2 : Hid (w3.heap[w.heap.size + 1 + 1]? = some (.cells (cellsW 64 (ws ++ [nextW ws])) 106 (0, 0))) := by rw [hw3]; exact HA
          have HG5 : Hid (Gro (w.heap.size + 1 + 1) w1 w3) := Lib.hid (by rw [hw3]; exact gro_set HG4.out _ _)
          clear hw3 HA f1 d1 s1
          go_wp2
          go_roundw
          case rel => exact ⟨ws ++ [nextW ws], m + 1, by rw [List.length_append, HWL.out]; rfl, by omega, by go_num, H32.out.snoc (nextW_lt _), by rw [← HE.out, show 48 - (m + 1) = 48 - m - 1 by omega], HA2.out, HG5.out⟩
          case measure => simp [intOf]; omega
        · obtain rfl : m = 48 := by omega
          have hws : ws = schedW b := hext
          rw [cellsW_all (by omega), hws] at hzr
          have hz1 := (hG.block _ (heap_lt HZ1.out) (fun e => by have := Option.some.inj e; omega)).trans HZ1.out
          have hsz : (Tryz.prog.info? 106).map (·.size) = some (((schedW b).map wV).toArray).size := by
            simp only [List.size_toArray, List.length_map, schedW_len]
            kernel_rfl
          have hsz2 : (Array.replicate 64 (Value.int .u32 0)).size = (((schedW b).map wV).toArray).size := by
            simp only [List.size_toArray, List.length_map, schedW_len, Array.size_replicate]
          have HB := Lib.hid (hb.trans (gro_below hG (by omega) hb.size))
          have hone := one_map (f := wV) (fun _ => rfl) (schedW b)
          clear hext h32 hws hwl hG
          go_upto_region 14 with fail
          apply wp_region_lit
          refine wpList_load_row rfl 106 _ rfl (w.heap.size + 1 + 1) rfl 106 _ _ _ hzr Tryz.underlying106 rfl hsz ?_
          refine wpList_store_row rfl 106 _ _ rfl (w.heap.size + 1) ((schedW b).map wV).toArray rfl (by as_aux_lemma => kernel_rfl) 106 _ hz1 hsz hsz2 hone ?_
          apply wpList_nil
          generalize hw2 : wr.setRow _ _ = w3
          have hz3 : w3.heap[w.heap.size + 1]? = some (.cells ((schedW b).map wV).toArray 106 (0, 0)) := by
            rw [← hw2]
            exact setRow_heap wr _ _ _ _ _ hz1
          have hb3 : Below w.heap.size w w3 := by
            rw [← hw2]
            exact below_setRow HB.out (by omega) _
          clear hw2
          rename_i hK
          refine hK _ _ ?_
          apply wp_ret
          exact bodyPost_ret (v := .agg ((schedW b).map wV).toArray) (results_cell_row rfl _ _ (w.heap.size + 1) 106 _ _ _ (by as_aux_lemma => kernel_rfl) hz3 Tryz.underlying106 rfl hsz) rfl ⟨rfl, hb3⟩
end Go.Proofs.YtnnjgokaabaaoaaGreatDoor

namespace Go.Proofs.YtnnjgokaabaaoaaGreatDoor
open Go.RowKit

set_option maxHeartbeats 8000000 in
set_option maxRecDepth 100000 in
theorem rblock_walk (h : H8) (hh : h.ok) (b : List UInt8) (hl : b.length = 64) (w : World) :
    Calls Tryz.prog 40 #[.agg (h.words.map wV).toArray, .agg (b.map bV).toArray] w fun e w' => e = .returned (.agg ((blockH h b).words.map wV).toArray) ∧ Below w.heap.size w w' := by
  obtain ⟨w1, hw1, hb1, hz0, hz1, hz2⟩ : ∃ w1, w1 = ((w.alloc (.cells (h.words.map wV).toArray 70)).alloc (.cells (b.map bV).toArray 72)).alloc (.cells (Array.replicate 8 (.int .u32 0)) 70) ∧ Below w.heap.size w w1 ∧ w1.heap[w.heap.size]? = some (.cells (h.words.map wV).toArray 70 (0, 0)) ∧ w1.heap[w.heap.size + 1]? = some (.cells (b.map bV).toArray 72 (0, 0)) ∧ w1.heap[w.heap.size + 1 + 1]? = some (.cells (Array.replicate 8 (.int .u32 0)) 70 (0, 0)) := by
    refine ⟨_, rfl, (((Below.refl _ _).alloc (Nat.le_refl _) _).alloc (by simp) _).alloc (by simp; omega) _, ?_, ?_, ?_⟩
    · rw [heap_alloc_old _ _ (by simp; omega)]
      exact heap_alloc2_old _ _ _
    · rw [heap_alloc_old _ _ (by simp)]
      exact heap_alloc2_new _ _ _
    · exact heap_alloc3 _ _ _ _
  have CW := words_walk b hl w1
  have hsz : (Tryz.prog.info? 72).map (·.size) = some (b.map bV).toArray.size := by
    simp only [List.size_toArray, List.length_map, hl]
    kernel_rfl
  have hsl := schedW_len b
  have hs32 := schedW_32 b
  have HBH := Lib.hid (show blockH h b = addH h (runH h (schedW b) 64) from rfl)
  generalize schedW b = ws at *
  have hss : (Tryz.prog.info? 106).map (·.size) = some ((ws.map wV).toArray).size := by
    simp only [List.size_toArray, List.length_map, hsl]
    kernel_rfl
  have hso : (Array.replicate 64 (Value.int .u32 0)).size = ((ws.map wV).toArray).size := by
    simp only [List.size_toArray, List.length_map, hsl, Array.size_replicate]
  have hs1 := one_map (f := wV) (fun _ => rfl) ws
  go_enter Tryz.func40, Tryz.ntmps40
  go_upto_region 1 with fail
  generalize hww : World.alloc _ _ = w1'
  obtain rfl : w1' = w1 := by rw [← hww, hw1]; rfl
  clear hww hw1
  apply wp_region_lit
  refine wpList_load_row rfl 72 _ rfl (w.heap.size + 1) rfl 72 _ _ _ hz1 Tryz.underlying72 rfl hsz ?_
  clear hsz
  go_wp2_with fail
  refine CW.mono ?_
  rintro e w2 ⟨rfl, hb2⟩
  have hB2 := below_chain hb1 hb2 hb1.size
  have y0 := (hb2.block _ (heap_lt hz0)).trans hz0
  have y2 := (hb2.block _ (heap_lt hz2)).trans hz2
  have hg2 : w.heap.size + 1 + 1 < w2.heap.size := heap_lt y2
  clear CW hz0 hz1 hz2
  go_upto_region 2 with (refine wpList_store_row rfl 106 _ _ rfl w2.heap.size (ws.map wV).toArray rfl rfl 106 (Array.replicate 64 (Value.int .u32 0)) (heap_alloc_new _ _) hss hso hs1 ?_; simp only [Act.put])
  generalize hw3 : World.setRow _ _ _ = w3
  obtain ⟨xw, hb3⟩ : w3.heap[w2.heap.size]? = some (.cells (ws.map wV).toArray 106 (0, 0)) ∧ Below w2.heap.size w2 w3 := by rw [← hw3]; exact laid_row _ _ _ _
  clear hw3 hss hso hs1
  have hB3 := below_chain hB2 hb3 hB2.size
  replace y0 := (hb3.block _ (heap_lt y0)).trans y0
  replace y2 := (hb3.block _ (heap_lt y2)).trans y2
  have CK := rconst_walk w3
  have hks : (Tryz.prog.info? 106).map (·.size) = some ((kSha.map wV).toArray).size := by kernel_rfl
  have hk1 := one_map (f := wV) (fun _ => rfl) kSha
  clear hb1 hb2 hB2
  go_wp2_with fail
  refine CK.mono ?_
  rintro e w4 ⟨rfl, hb4⟩
  have hB4 := below_chain hB3 hb4 hB3.size
  replace y0 := (hb4.block _ (heap_lt y0)).trans y0
  replace y2 := (hb4.block _ (heap_lt y2)).trans y2
  replace xw := (hb4.block _ (heap_lt xw)).trans xw
  clear CK
  go_upto_region 3 with (refine wpList_store_row rfl 106 _ _ rfl w4.heap.size (kSha.map wV).toArray rfl rfl 106 (Array.replicate 64 (Value.int .u32 0)) (heap_alloc_new _ _) hks rfl hk1 ?_; simp only [Act.put])
  generalize hw5 : World.setRow _ _ _ = w5
  obtain ⟨xk, hb5⟩ : w5.heap[w4.heap.size]? = some (.cells (kSha.map wV).toArray 106 (0, 0)) ∧ Below w4.heap.size w4 w5 := by rw [← hw5]; exact laid_row _ _ _ _
  clear hw5 hks hk1 hb3
  have hB5 := below_chain hB4 hb5 hB4.size
  replace y0 := (hb5.block _ (heap_lt y0)).trans y0
  replace y2 := (hb5.block _ (heap_lt y2)).trans y2
  replace xw := (hb5.block _ (heap_lt xw)).trans xw
  have hhs : (Tryz.prog.info? 70).map (·.size) = some ((h.words.map wV).toArray).size := by kernel_rfl
  have hh1 := one_map (f := wV) (fun _ => rfl) h.words
  clear hb4 hB3 hB4
  go_upto_region 4 with (first | (refine wpList_load_row rfl 70 _ rfl w.heap.size rfl 70 _ _ _ y0 Tryz.underlying70 rfl hhs ?_; simp only [Act.put]) | (refine wpList_store_row rfl 70 _ _ rfl w5.heap.size (h.words.map wV).toArray rfl rfl 70 (Array.replicate 8 (Value.int .u32 0)) (heap_alloc_new _ _) hhs rfl hh1 ?_; simp only [Act.put]))
  generalize hw6 : World.setRow _ _ _ = w6
  obtain ⟨xv, hb6⟩ : w6.heap[w5.heap.size]? = some (.cells (h.words.map wV).toArray 70 (0, 0)) ∧ Below w5.heap.size w5 w6 := by rw [← hw6]; exact laid_row _ _ _ _
  clear hw6 hhs hh1
  have hB6 := below_chain hB5 hb6 hB5.size
  have HG25 := Lib.hid (heap_lt xw)
  have HG45 := Lib.hid (heap_lt xk)
  replace y0 := (hb6.block _ (heap_lt y0)).trans y0
  replace y2 := (hb6.block _ (heap_lt y2)).trans y2
  replace xw := (hb6.block _ (heap_lt xw)).trans xw
  replace xk := (hb6.block _ (heap_lt xk)).trans xk
  have Y0 := Lib.hid y0
  have Y2 := Lib.hid y2
  have XW := Lib.hid xw
  have XK := Lib.hid xk
  have HSL := Lib.hid hsl
  have HS32 := Lib.hid hs32
  have HB5 := Lib.hid hB5
  have HB6 := Lib.hid hB6
  clear y0 y2 xw xk hsl hs32 hb5 hB5 hb6 hB6
  go_wp2
  go_loopw [8] (fun i wr => ∃ (k : Nat) (v : H8), k ≤ 64 ∧ i = .int .i64 k ∧ v = runH h ws k ∧ wr.heap[w5.heap.size]? = some (.cells (v.words.map wV).toArray 70 (0, 0)) ∧ Gro w5.heap.size w6 wr) (fun i _ => 64 - (intOf i).toNat)
  case atStart => exact ⟨0, h, Nat.zero_le _, rfl, rfl, xv, gro_of (Below.refl _ _)⟩
  case round =>
    clear xv
    obtain ⟨k, v, hk, rfl, hv, hzr, hG⟩ := hrel
    have hvo : v.ok := hv ▸ runH_ok hh ws k
    have HV := Lib.hid hv
    clear hv
    by_cases h1 : k < 64
    · have h1' : (k : Int) < 64 := by omega
      have hkl : k < kSha.length := h1
      have hwl : k < ws.length := by have := HSL.out; omega
      have ck := arr_cell ((hG.block _ (heap_lt XK.out) (fun e => by have := Option.some.inj e; have := HG45.out; omega)).trans XK.out) (map_at (f := wV) hkl)
      have cw := arr_cell ((hG.block _ (heap_lt XW.out) (fun e => by have := Option.some.inj e; have := HG25.out; omega)).trans XW.out) (map_at (f := wV) hwl)
      unfold wV at ck cw
      have HST := Lib.hid (show runH h ws (k + 1) = stepH (runH h ws k) (kSha.getD k 0) (ws.getD k 0) from rfl)
      rw [getD_nat hkl, getD_nat hwl, ← HV.out] at HST
      have hkk : kSha[k] < 4294967296 := (show W32 kSha by unfold W32; decide) _ (List.getElem_mem _)
      have hww := HS32.out.at hwl
      generalize kSha[k] = kk at *
      generalize ws[k] = ww at *
      clear hkl hwl
      obtain ⟨a, b0, c, d, e, f, g, h0⟩ := v
      obtain ⟨ha, hb, hc, hd, he, hf, hg, hh0⟩ := hvo
      simp only at ha hb hc hd he hf hg hh0
      obtain ⟨c0, c1, c2, c3, c4, c5, c6, c7⟩ := box8 hzr
      simp only at c0 c1 c2 c3 c4 c5 c6 c7
      have D1 : ∀ W : World, Calls Tryz.prog 69 #[.int .u32 e, .int .u64 6] W fun r w' => r = .returned (.int .u32 (rotN 6 e : Nat)) ∧ w' = W := fun W => rot_walk e 6 W he (by decide) (by decide)
      have D2 : ∀ W : World, Calls Tryz.prog 69 #[.int .u32 e, .int .u64 11] W fun r w' => r = .returned (.int .u32 (rotN 11 e : Nat)) ∧ w' = W := fun W => rot_walk e 11 W he (by decide) (by decide)
      have D3 : ∀ W : World, Calls Tryz.prog 69 #[.int .u32 e, .int .u64 25] W fun r w' => r = .returned (.int .u32 (rotN 25 e : Nat)) ∧ w' = W := fun W => rot_walk e 25 W he (by decide) (by decide)
      have E1 : ∀ W : World, Calls Tryz.prog 69 #[.int .u32 a, .int .u64 2] W fun r w' => r = .returned (.int .u32 (rotN 2 a : Nat)) ∧ w' = W := fun W => rot_walk a 2 W ha (by decide) (by decide)
      have E2 : ∀ W : World, Calls Tryz.prog 69 #[.int .u32 a, .int .u64 13] W fun r w' => r = .returned (.int .u32 (rotN 13 a : Nat)) ∧ w' = W := fun W => rot_walk a 13 W ha (by decide) (by decide)
      have E3 : ∀ W : World, Calls Tryz.prog 69 #[.int .u32 a, .int .u64 22] W fun r w' => r = .returned (.int .u32 (rotN 22 a : Nat)) ∧ w' = W := fun W => rot_walk a 22 W ha (by decide) (by decide)
      have HZR := Lib.hid hzr
      have HG := Lib.hid hG
      clear hzr hG
      have p4 := LaterOf.cell c4
      go_upto_region 7 with fail
      (refine wp_region_later (by kernel_rfl) (by kernel_rfl) ?_; (repeat (go_big_quiet_step (first | (go_at_call 69; with_reducible exact LaterOf.still _ (D1 _)) | (go_at_call 69; with_reducible exact LaterOf.still _ (D2 _)) | (go_at_call 69; with_reducible exact LaterOf.still _ (D3 _))))); refine wpQuiet_nil ?_; intro _ hw1; obtain ⟨lw, hw2⟩ := hw1; subst hw2)
      rw [bsE_val he]
      have q0 := LaterOf.cell c0 lw
      have q1 := LaterOf.cell c1 lw
      have q2 := LaterOf.cell c2 lw
      have q3 := LaterOf.cell c3 lw
      have q4 := LaterOf.cell c4 lw
      have q5 := LaterOf.cell c5 lw
      have q6 := LaterOf.cell c6 lw
      have q7 := LaterOf.cell c7 lw
      have qk := LaterOf.cell ck lw
      have qw := LaterOf.cell cw lw
      have HZ7 := Lib.hid ((lw.below.block _ (heap_lt HZR.out)).trans HZR.out)
      have HG7 := Lib.hid (gro_chain HG.out lw.below)
      clear c0 c1 c2 c3 c4 c5 c6 c7 ck cw p4 D1 D2 D3 HZR HG
      generalize lw.world = w7 at *
      clear lw
      go_upto_region 9 with fail
      rw [chR_val he hf hg]
      have p7 := LaterOf.cell q7
      have pk := LaterOf.cell qk
      have pw := LaterOf.cell qw
      (refine wp_region_later (by kernel_rfl) (by kernel_rfl) ?_; (repeat (go_big_quiet_step (fail))); refine wpQuiet_nil ?_; intro _ hw1; obtain ⟨lw, hw2⟩ := hw1; subst hw2)
      clear p7 pk pw qk qw
      have r0 := LaterOf.cell q0 lw
      have r1 := LaterOf.cell q1 lw
      have r2 := LaterOf.cell q2 lw
      have r3 := LaterOf.cell q3 lw
      have r4 := LaterOf.cell q4 lw
      have r5 := LaterOf.cell q5 lw
      have r6 := LaterOf.cell q6 lw
      have r7 := LaterOf.cell q7 lw
      have HZ8 := Lib.hid ((lw.below.block _ (heap_lt HZ7.out)).trans HZ7.out)
      have HG8 := Lib.hid (gro_chain HG7.out lw.below)
      clear q0 q1 q2 q3 q4 q5 q6 q7 HZ7 HG7
      generalize lw.world = w8 at *
      clear lw
      have p0 := LaterOf.cell r0
      rw [show ((((h0 : Int) + (bsE e : Nat) + (chN e f g : Nat) + kk) % 4294967296 + ww) % 4294967296) = ((tSha ⟨a, b0, c, d, e, f, g, h0⟩ kk ww : Nat) : Int) by simp only [tSha]; omega]
      have HSA := Lib.hid (show stepH ⟨a, b0, c, d, e, f, g, h0⟩ kk ww = ⟨(tSha ⟨a, b0, c, d, e, f, g, h0⟩ kk ww + bsA a + majN a b0 c) % 4294967296, a, b0, c, (d + tSha ⟨a, b0, c, d, e, f, g, h0⟩ kk ww) % 4294967296, e, f, g⟩ from rfl)
      rw [HSA.out] at HST
      generalize tSha ⟨a, b0, c, d, e, f, g, h0⟩ kk ww = T at *
      clear HSA
      go_upto_region 10 with fail
      (refine wp_region_later (by kernel_rfl) (by kernel_rfl) ?_; (repeat (go_big_quiet_step (first | (go_at_call 69; with_reducible exact LaterOf.still _ (E1 _)) | (go_at_call 69; with_reducible exact LaterOf.still _ (E2 _)) | (go_at_call 69; with_reducible exact LaterOf.still _ (E3 _))))); refine wpQuiet_nil ?_; intro _ hw1; obtain ⟨lw, hw2⟩ := hw1; subst hw2)
      rw [bsA_val ha]
      have q0 := LaterOf.cell r0 lw
      have q1 := LaterOf.cell r1 lw
      have q2 := LaterOf.cell r2 lw
      have q3 := LaterOf.cell r3 lw
      have q4 := LaterOf.cell r4 lw
      have q5 := LaterOf.cell r5 lw
      have q6 := LaterOf.cell r6 lw
      have q7 := LaterOf.cell r7 lw
      have HZ9 := Lib.hid ((lw.below.block _ (heap_lt HZ8.out)).trans HZ8.out)
      have HG9 := Lib.hid (gro_chain HG8.out lw.below)
      clear r0 r1 r2 r3 r4 r5 r6 r7 HZ8 HG8 p0 E1 E2 E3
      generalize lw.world = w9 at *
      clear lw
      have s0 := is_some q0
      have s1 := is_some q1
      have s2 := is_some q2
      have s3 := is_some q3
      have s4 := is_some q4
      have s5 := is_some q5
      have s6 := is_some q6
      have s7 := is_some q7
      have f0 := arr_frozen (i := 0) HZ9.out
      have f1 := arr_frozen (i := 1) HZ9.out
      have f2 := arr_frozen (i := 2) HZ9.out
      have f3 := arr_frozen (i := 3) HZ9.out
      have f4 := arr_frozen (i := 4) HZ9.out
      have f5 := arr_frozen (i := 5) HZ9.out
      have f6 := arr_frozen (i := 6) HZ9.out
      have f7 := arr_frozen (i := 7) HZ9.out
      go_wp2
      go_roundw
      case rel =>
        rw [majR_val ha hb hc, show (((T : Nat) : Int) + (bsA a : Nat) + (majN a b0 c : Nat)) % 4294967296 = (((T + bsA a + majN a b0 c) % 4294967296 : Nat) : Int) by omega, show (((d : Nat) : Int) + T) % 4294967296 = (((d + T) % 4294967296 : Nat) : Int) by omega]
        exact ⟨k + 1, ⟨(T + bsA a + majN a b0 c) % 4294967296, a, b0, c, (d + T) % 4294967296, e, f, g⟩, by omega, by go_num, HST.out.symm, set8 HZ9.out _ _ _ _ _ _ _ _, gro_set8 HG9.out _ _ _ _ _ _ _ _⟩
      case measure => simp [intOf]; omega
    · obtain rfl : k = 64 := by omega
      rw [← HV.out] at HBH
      obtain ⟨A, hA⟩ : ∃ A, (addH h v).words = A := ⟨_, rfl⟩
      have hAl : A.length = h.words.length := by rw [← hA]; rfl
      have HAT := Lib.hid (fun (j : Nat) (hj : j < 8) => addH_at h v hj)
      have HA := Lib.hid hA
      have HAL := Lib.hid hAl
      have HVO := Lib.hid hvo
      have hwg : w.heap.size + 1 + 1 < w5.heap.size := by have := HB5.out.size; have h1 := HG25.out; omega
      have y0 := (hG.block _ (heap_lt Y0.out) (fun e => by have := Option.some.inj e; omega)).trans Y0.out
      have y2 := (hG.block _ (heap_lt Y2.out) (fun e => by have := Option.some.inj e; omega)).trans Y2.out
      have z0' : wr.heap[w.heap.size]? = some (.cells ((A.take 0 ++ h.words.drop 0).map wV).toArray 70 (0, 0)) := y0
      have hB := HB6.out.trans (gro_below hG HB5.out.size HB6.out.size)
      have HZV := Lib.hid hzr
      have HY2 := Lib.hid y2
      have HB := Lib.hid hB
      have HWG := Lib.hid hwg
      obtain ⟨wo, rfl⟩ : ∃ wo : World, wo = wr := ⟨_, rfl⟩
      rw [show ((64 : Nat) : Int) = 64 from rfl]
      clear hA hAl hvo y0 y2 hzr hB hG hk h1 Y0 Y2 XK XW HSL HS32 HV hwg
      go_wp2
      go_loopw [14] (fun i wr => ∃ k : Nat, k ≤ 8 ∧ i = .int .i64 k ∧ wr.heap[w.heap.size]? = some (.cells ((A.take k ++ h.words.drop k).map wV).toArray 70 (0, 0)) ∧ wr.heap[w.heap.size + 1 + 1]? = some (.cells (Array.replicate 8 (.int .u32 0)) 70 (0, 0)) ∧ wr.heap[w5.heap.size]? = some (.cells (v.words.map wV).toArray 70 (0, 0)) ∧ Below w.heap.size w wr) (fun i _ => 8 - (intOf i).toNat)
      case atStart => exact ⟨0, Nat.zero_le _, rfl, z0', HY2.out, HZV.out, HB.out⟩
      case round =>
        clear z0'
        obtain ⟨k, hk, rfl, hzr, hz2, hzv, hBr⟩ := hrel
        by_cases h1 : k < 8
        · have h1' : (k : Int) < 8 := by omega
          have hkl : k < h.words.length := h1
          have hkv : k < v.words.length := h1
          have hc := LaterOf.cell (arr_cell hzr (v := wV h.words[k]) (by rw [List.getElem?_toArray, List.getElem?_map, mix_at hkl HAL.out]; rfl))
          have hcv := LaterOf.cell (arr_cell hzv (map_at (f := wV) hkv))
          unfold wV at hc hcv
          have hkA : k < A.length := by rw [HAL.out]; exact h1
          have e1 : A[k] = (h.words[k] + v.words[k]) % 4294967296 := by
            have := HAT.out k h1
            simp only [HA.out] at this
            exact this
          have HMX := Lib.hid (mix_set hkA HAL.out)
          have hxw := hh.words.at hkl
          have hyw := HVO.out.words.at hkv
          have HEQ : Hid ((((h.words[k] : Nat) : Int) + ((v.words[k] : Nat) : Int)) % 4294967296 = ((A[k] : Nat) : Int)) := Lib.hid (by rw [e1]; omega)
          have HZR := Lib.hid hzr
          have HZ2 := Lib.hid hz2
          have HZV2 := Lib.hid hzv
          have HBR := Lib.hid hBr
          clear e1 hzr hz2 hzv hBr
          generalize h.words[k] = x at *
          generalize v.words[k] = y at *
          generalize A[k] = s at *
          clear hkl hkA hkv
          go_upto_region 23 with fail
          (refine wp_tail_quick 9 1 rfl (by kernel_rfl) (by kernel_rfl) (by kernel_rfl) (by kernel_rfl) ?_; simp only [List.take_succ_cons, List.take_zero]; (repeat (go_big_quiet_step (fail))); refine wpQuiet_nil ?_; intro _ hw1; obtain ⟨lw, hw2⟩ := hw1; subst hw2)
          rw [HEQ.out]
          have z8 := (lw.below.block _ (heap_lt HZR.out)).trans HZR.out
          have z8b := (lw.below.block _ (heap_lt HZ2.out)).trans HZ2.out
          have z8v := (lw.below.block _ (heap_lt HZV2.out)).trans HZV2.out
          have hb8 := below_chain HBR.out lw.below HBR.out.size
          have q0 := hc lw
          have s0 := is_some q0
          have f0 := arr_frozen (i := k) z8
          have HAS := Lib.hid (arr_set (i := k) (x := s) z8 hb8 (Nat.le_refl _))
          rw [HMX.out] at HAS
          have HO2 := Lib.hid ((heap_setCell_other lw.world ⟨w.heap.size, k, none⟩ (w.heap.size + 1 + 1) (wV s) (by simp only; omega)).trans z8b)
          have HOV := Lib.hid ((heap_setCell_other lw.world ⟨w.heap.size, k, none⟩ w5.heap.size (wV s) (by have := HWG.out; simp only; omega)).trans z8v)
          clear hc hcv z8 z8b z8v hb8
          (refine wpAny_ready (rs := [9]) (by kernel_rfl) (by simp) ?_; refine AllReady.cons rfl (fun K hK => ?_) AllReady.nil; go_simp; refine hK _ _ ?_; clear hK K)
          refine wpAny_done (by kernel_rfl) ?_ _
          obtain ⟨wq, hwq⟩ : ∃ wq, wq = lw.world.setCell ⟨w.heap.size, k, none⟩ (.int .u32 ((s : Nat) : Int)) := ⟨_, rfl⟩
          rw [← hwq]
          have HR : Hid ((wq.heap[w.heap.size]? = some (.cells ((A.take (k + 1) ++ h.words.drop (k + 1)).map wV).toArray 70 (0, 0)) ∧ Below w.heap.size w wq) ∧ wq.heap[w.heap.size + 1 + 1]? = some (.cells (Array.replicate 8 (.int .u32 0)) 70 (0, 0)) ∧ wq.heap[w5.heap.size]? = some (.cells (v.words.map wV).toArray 70 (0, 0))) := Lib.hid (by
            rw [hwq]
            exact ⟨HAS.out, HO2.out, HOV.out⟩)
          clear hwq HAS HO2 HOV q0 s0 f0
          go_wp2
          go_roundw
          case rel => exact ⟨k + 1, by omega, by go_num, HR.out.1.1, HR.out.2.1, HR.out.2.2, HR.out.1.2⟩
          case measure => simp [intOf]; omega
        · obtain rfl : k = 8 := by omega
          have hA8 : A.take 8 ++ h.words.drop 8 = (blockH h b).words := by
            rw [HBH.out, HA.out, List.take_of_length_le (by rw [HAL.out]; exact Nat.le_refl _)]
            exact List.append_nil _
          rw [hA8] at hzr
          clear hA8 HBH
          obtain ⟨R, hR⟩ : ∃ R, blockH h b = R := ⟨_, rfl⟩
          rw [hR] at hzr
          have HR := Lib.hid hR
          clear hR
          have hone := one_map (f := wV) (fun _ => rfl) R.words
          have hsz : (Tryz.prog.info? 70).map (·.size) = some ((R.words.map wV).toArray).size := by kernel_rfl
          go_upto_region 24 with fail
          apply wp_region_lit
          refine wpList_load_row rfl 70 _ rfl w.heap.size rfl 70 _ _ _ hzr Tryz.underlying70 rfl hsz ?_
          refine wpList_store_row rfl 70 _ _ rfl (w.heap.size + 1 + 1) (R.words.map wV).toArray rfl (by as_aux_lemma => kernel_rfl) 70 _ hz2 hsz rfl hone ?_
          apply wpList_nil
          generalize hw2 : wr.setRow _ _ = w7
          have hz3 : w7.heap[w.heap.size + 1 + 1]? = some (.cells (R.words.map wV).toArray 70 (0, 0)) := by
            rw [← hw2]
            exact setRow_heap wr _ _ _ _ _ hz2
          have hb3 : Below w.heap.size w w7 := by
            rw [← hw2]
            exact below_setRow hBr (by omega) _
          clear hw2
          rename_i hK
          refine hK _ _ ?_
          apply wp_ret
          exact bodyPost_ret (v := .agg (R.words.map wV).toArray) (results_cell_row rfl _ _ (w.heap.size + 1 + 1) 70 _ _ _ (by as_aux_lemma => kernel_rfl) hz3 Tryz.underlying70 rfl hsz) rfl ⟨by rw [HR.out], hb3⟩
end Go.Proofs.YtnnjgokaabaaoaaGreatDoor

namespace Go.Proofs.YtnnjgokaabaaoaaGreatDoor
open Go.RowKit

theorem byteCells_app (a b : List UInt8) : Lib.byteCells (a ++ b) = Lib.byteCells a ++ Lib.byteCells b := by simp [Lib.byteCells]
theorem byteCells_len (a : List UInt8) : (Lib.byteCells a).length = a.length := by simp [Lib.byteCells]

def sliceLen : Value → Nat
  | .slice _ n _ => n
  | _ => 0

set_option maxHeartbeats 8000000 in
set_option maxRecDepth 100000 in
theorem rsha_walk (s : List UInt8) (w : World) (hs : s.length ≤ 1100000) :
    Calls Tryz.prog 15 #[S s] w fun e w' => e = .returned (S (shaF s)) ∧ Below w.heap.size w w' := by
  obtain ⟨i0, hi, hz0, hz1, hz2⟩ := info_parts infoByte
  obtain ⟨v0, w1, hcv, hrow, hb1⟩ := conv_row (P := Tryz.prog) w 9 54 5 s hs Tryz.underlying9 Tryz.underlying54 Tryz.underlying5
  have hlw : IntKind.u64.wrap (s.length : Int) = (s.length : Int) := by simp only [IntKind.wrap, IntKind.bits, IntKind.signed]; simp; omega
  obtain ⟨g0, cp0, hv0, -⟩ := hrow.slice
  have HROW := Lib.hid hrow
  clear hrow
  subst hv0
  rw [byteCells_len] at hcv HROW
  go_enter Tryz.func15, Tryz.ntmps15
  go_wp2_with (at_builtin; refine wpList_append_rowm _ rfl _ _ 54 rfl 5 i0 (.int .u8 0) 1 Tryz.underlying54 hi hz0 hz1 hz2 rfl w.heap.size _ (Lib.byteCells s) rfl (HROW.out.below ((Below.refl _ _).alloc (Nat.le_refl _) _)) ⟨w1.heap.size, 0, none⟩ 1 1 [.int .u8 128] rfl rfl (new_cell _ _ _) (by intro u hu; simp at hu; subst hu; rfl) (by rw [byteCells_len]; unfold maxLen; omega) (by rw [byteCells_len]; omega) (by have := hb1.size; simp; omega) ?_)
  intro v2 w2 hrow2 hb2
  have HB2 := Lib.hid ((hb1.trans ((Below.refl w.heap.size w1).alloc hb1.size _)).trans hb2)
  have HROW2 : Hid (RowM w2 w.heap.size 5 v2 (Lib.byteCells (s ++ [128]))) := Lib.hid (by rw [byteCells_app]; exact hrow2)
  clear hrow2 hb2 hcv HROW hb1 hlw
  go_wp2
  go_loopw [4] (fun v wr => ∃ j : Nat, RowM wr w.heap.size 5 v (Lib.byteCells (s ++ [128] ++ List.replicate j 0)) ∧ zerosN (s.length + 1) = zerosN (s.length + 1 + j) + j ∧ Below w.heap.size w wr) (fun v _ => zerosN (sliceLen v))
  case atStart => exact ⟨0, by simpa using HROW2.out, rfl, HB2.out⟩
  case round =>
    obtain ⟨j, hrow, hj, hB⟩ := hrel
    have hzl := zerosN_lt (s.length + 1)
    obtain ⟨g, cp, hv, -⟩ := hrow.slice
    subst hv
    have hlen : (Lib.byteCells (s ++ [128] ++ List.replicate j 0)).length = s.length + 1 + j := by rw [byteCells_len]; simp only [List.length_append, List.length_replicate, List.length_singleton]
    rw [hlen] at hrow
    have HROW := Lib.hid hrow
    have HJ := Lib.hid hj
    have HB := Lib.hid hB
    have HLEN := Lib.hid hlen
    have hjl : j < 64 := by omega
    have hbs := hB.size
    clear hrow hj hB
    rw [hlen]
    obtain ⟨m, hm⟩ : ∃ m, s.length + 1 + j = m := ⟨_, rfl⟩
    rw [hm] at HROW HJ HLEN ⊢
    clear hlen
    have hml : m ≤ 2000000 := by omega
    by_cases h56 : m % 64 = 56
    · have h56' : ((m : Int) % 64 == 56) = true := by rw [beq_iff_eq]; omega
      have h56n : (!((m : Int) % 64 == 56)) = false := by rw [h56']; rfl
      have h56m : ((m : Int) % 64 != 56) = false := by rw [bne, h56']; rfl
      have hz0 := zerosN_zero h56
      have hpz : s ++ [128] ++ List.replicate j 0 = padZ s := by
        have hj2 := HJ.out
        unfold padZ
        rw [hj2, hz0, Nat.zero_add]
      rw [hpz] at HROW HLEN
      clear HJ hz0 h56 hpz
      go_wp2
      obtain ⟨wo, rfl⟩ : ∃ wo : World, wo = wr := ⟨_, rfl⟩
      go_loopw [4, 5] (fun v i w' => ∃ j : Nat, j ≤ 8 ∧ i = .int .i64 (7 - (j : Int)) ∧ RowM w' w.heap.size 5 v (Lib.byteCells (padZ s ++ (bytes8 (s.length * 8)).take j)) ∧ Below w.heap.size w w') (fun _ i _ => (intOf i + 1).toNat)
      case atStart => exact ⟨0, Nat.zero_le _, rfl, by rw [List.take_zero, List.append_nil]; exact HROW.out, HB.out⟩
      case round =>
        clear HROW HB hbs
        obtain ⟨i, hi8, rfl, hrow, hB⟩ := hrel
        obtain ⟨g, cp, hv, hgB, hgl, -⟩ := hrow.slice
        subst hv
        have hpl := padZ_le s
        have hlen : (Lib.byteCells (padZ s ++ (bytes8 (s.length * 8)).take i)).length = (padZ s).length + i := by
          rw [byteCells_len, List.length_append, List.length_take]
          show _ + min i 8 = _
          omega
        rw [hlen] at hrow ⊢
        have HROW := Lib.hid hrow
        have HB := Lib.hid hB
        have hbs := hB.size
        obtain ⟨m2, hm2⟩ : ∃ m2, (padZ s).length + i = m2 := ⟨_, rfl⟩
        have HM2 := Lib.hid hm2
        rw [hm2] at HROW hlen ⊢
        have HLEN2 := Lib.hid hlen
        have hm2l : m2 ≤ 2000000 := by omega
        clear hrow hB hlen hm2
        by_cases h1 : i < 8
        · have h1' : 0 ≤ 7 - (i : Int) := by omega
          have h4' : (i : Int) ≤ 7 := by omega
          have hw8 : IntKind.u64.wrap (8 * (7 - (i : Int))) = 8 * (7 - (i : Int)) := by simp only [IntKind.wrap, IntKind.bits, IntKind.signed]; simp; omega
          have h3' : (8 * (7 - (i : Int))).toNat = 56 - 8 * i := by omega
          have hii : i < (bytes8 (s.length * 8)).length := h1
          have HT := Lib.hid (List.take_succ_eq_append_getElem hii)
          obtain ⟨c, hc⟩ : ∃ c, (bytes8 (s.length * 8))[i] = c := ⟨_, rfl⟩
          have hcn := bytes8_at (s.length * 8) i hii
          rw [hc] at HT hcn
          have hci : ((s.length : Int) * 8 / 2 ^ (56 - 8 * i) % 256) = ((c.toNat : Nat) : Int) := by rw [hcn, Int.natCast_emod, Int.natCast_ediv, Int.natCast_mul, Int.natCast_pow]; rfl
          obtain ⟨ys, hys⟩ : ∃ ys, padZ s ++ (bytes8 (s.length * 8)).take i = ys := ⟨_, rfl⟩
          have HYS := Lib.hid (show padZ s ++ (bytes8 (s.length * 8)).take (i + 1) = ys ++ [c] by rw [HT.out, ← List.append_assoc, hys])
          rw [hys] at HROW HLEN2
          clear hc hii hcn HT hys
          go_wp2_with (at_builtin; refine wpList_append_rowm _ rfl _ _ 54 rfl 5 i0 (.int .u8 0) 1 Tryz.underlying54 hi hz0 hz1 hz2 rfl w.heap.size _ _ rfl (HROW.out.below ((Below.refl _ _).alloc (Nat.le_refl _) _)) ⟨wr.heap.size, 0, none⟩ 1 1 [.int .u8 ((c.toNat : Nat) : Int)] rfl rfl (new_cell _ _ _) (by intro u hu; simp at hu; subst hu; rfl) (by rw [HLEN2.out]; unfold maxLen; omega) (by rw [HLEN2.out]; omega) (by simp; omega) ?_)
          intro v3 w3 hrow3 hb3
          have HB3 := Lib.hid ((HB.out.trans ((Below.refl w.heap.size wr).alloc hbs _)).trans hb3)
          have HR4 : Hid (RowM w3 w.heap.size 5 v3 (Lib.byteCells (padZ s ++ (bytes8 (s.length * 8)).take (i + 1)))) := Lib.hid (by
            rw [HYS.out, byteCells_app]
            exact hrow3)
          clear hrow3 hb3 hci hw8
          go_wp2
          go_roundw
          case rel => exact ⟨i + 1, by omega, congrArg (Value.int IntKind.i64) (by omega), HR4.out, HB3.out⟩
          case measure => simp [intOf]; omega
        · obtain rfl : i = 8 := by omega
          have h1' : ¬ (0 ≤ 7 - ((8 : Nat) : Int)) := by omega
          rw [show (padZ s ++ (bytes8 (s.length * 8)).take 8) = padS s from rfl] at HROW HLEN2
          have hm8 : (padS s).length = m2 := by rw [← byteCells_len, HLEN2.out]
          have hSH := show shaF s = (blocksH h0Sha (padS s) ((padS s).length / 64)).bytes from rfl
          have hp64 := padS_64 s
          rw [hm8] at hSH hp64
          have HSH := Lib.hid hSH
          have HP64 := Lib.hid hp64
          have HM8 := Lib.hid hm8
          have HGB := Lib.hid hgB
          generalize padS s = pad at *
          clear hSH hp64 hm8 HM2 h1 hi8 HLEN hm hml h56' h56n h56m hpl
          have CI := rfirst_walk wr
          rw [show (7 - ((8 : Nat) : Int)) = -1 from rfl]
          go_wp2_with fail
          refine CI.mono ?_
          rintro e w3 ⟨rfl, hb3⟩
          have HROW3 := Lib.hid (HROW.out.below hb3)
          have HB3 := Lib.hid (below_chain HB.out hb3 hbs)
          have hgl3 := Nat.lt_of_lt_of_le hgl hb3.size
          have hhs : (Tryz.prog.info? 70).map (·.size) = some ((h0Sha.words.map wV).toArray).size := by kernel_rfl
          have hh1 := one_map (f := wV) (fun _ => rfl) h0Sha.words
          clear CI HROW hb3
          go_upto_region 10 with (refine wpList_store_row rfl 70 _ _ rfl w3.heap.size (h0Sha.words.map wV).toArray rfl rfl 70 (Array.replicate 8 (Value.int .u32 0)) (heap_alloc_new _ _) hhs rfl hh1 ?_; simp only [Act.put])
          generalize hw4 : World.setRow _ _ _ = w4
          obtain ⟨xh, hb4⟩ : w4.heap[w3.heap.size]? = some (.cells (h0Sha.words.map wV).toArray 70 (0, 0)) ∧ Below w3.heap.size w3 w4 := by rw [← hw4]; exact laid_row _ _ _ _
          clear hw4 hhs hh1
          have HROW4 := Lib.hid (HROW3.out.below hb4)
          have HB4 := Lib.hid (below_chain HB3.out hb4 HB3.out.size)
          have HW3 := Lib.hid HB3.out.size
          have HGL := Lib.hid hgl3
          have XH := Lib.hid xh
          clear HROW3 HB3 hb4 xh hgl3 hgl HB hbs
          go_wp2
          obtain ⟨wp, rfl⟩ : ∃ wp : World, wp = wr := ⟨_, rfl⟩
          go_loopw [7] (fun i wr => ∃ k : Nat, 64 * k ≤ m2 ∧ i = .int .i64 (64 * (k : Int)) ∧ RowM wr w.heap.size 5 (.slice (some ⟨g, 0, none⟩) m2 cp) (Lib.byteCells pad) ∧ wr.heap[w3.heap.size]? = some (.cells ((blocksH h0Sha pad k).words.map wV).toArray 70 (0, 0)) ∧ Below w.heap.size w wr) (fun i _ => m2 + 64 - (intOf i).toNat)
          case atStart => exact ⟨0, Nat.zero_le _, rfl, HROW4.out, XH.out, HB4.out⟩
          case round =>
            clear HROW4 XH HB4
            obtain ⟨k, hk, rfl, hrow, hxh, hB⟩ := hrel
            have HROW := Lib.hid hrow
            have HXH := Lib.hid hxh
            have HB := Lib.hid hB
            have h64 := HP64.out
            have hb3h := heap_lt hxh
            have hszw := hB.size
            clear hrow hxh hB
            by_cases h1 : 64 * k < m2
            · have h1' : 64 * (k : Int) < (m2 : Int) := by omega
              have hkm : 64 * k + 64 ≤ m2 := by omega
              have hbl := blk_len (l := pad) (k := k) (by have := HM8.out; omega) (by have := HM8.out; omega)
              have HBE := Lib.hid (fun j (hj : j < 64) => blk_at (l := pad) (k := k) hj (by have := HM8.out; omega))
              have HBK := Lib.hid (show blocksH h0Sha pad (k + 1) = blockH (blocksH h0Sha pad k) ((pad.drop (64 * k)).take 64) from rfl)
              have hok := blocksH_ok h0_ok pad k
              generalize (pad.drop (64 * k)).take 64 = blk at *
              generalize blocksH h0Sha pad k = hv at *
              go_upto_region 14 with fail
              generalize hwq : World.alloc _ _ = wq
              have hxq : wq.heap[wr.heap.size]? = some (.cells (cellsBy 64 (blk.take 0)) 72 (0, 0)) := by
                rw [← hwq, heap_alloc_new]
                rfl
              have hbq : Below wr.heap.size wr wq := by
                rw [← hwq]
                exact (Below.refl _ _).alloc (Nat.le_refl _) _
              clear hwq
              have HROWQ := Lib.hid (HROW.out.below hbq)
              have HXHQ := Lib.hid ((hbq.block _ (heap_lt HXH.out)).trans HXH.out)
              have HBQ := Lib.hid (below_chain HB.out hbq HB.out.size)
              have HGW := Lib.hid (show g < wr.heap.size by have := HGL.out; omega)
              clear HROW HXH HB hbq
              obtain ⟨wl, rfl⟩ : ∃ wl : World, wl = wr := ⟨_, rfl⟩
              go_wp2
              go_loopw [9] (fun i w' => ∃ j : Nat, j ≤ 64 ∧ i = .int .i64 (j : Int) ∧ w'.heap[wl.heap.size]? = some (.cells (cellsBy 64 (blk.take j)) 72 (0, 0)) ∧ Gro wl.heap.size wq w') (fun i _ => 64 - (intOf i).toNat)
              case atStart => exact ⟨0, Nat.zero_le _, rfl, hxq, gro_of (Below.refl _ _)⟩
              case round =>
                clear hxq
                obtain ⟨j, hj, rfl, hx, hG⟩ := hrel
                have HROWR := Lib.hid (HROWQ.out.kept hG (by have := HGW.out; omega))
                by_cases h2 : j < 64
                · have h2' : (j : Int) < 64 := by omega
                  have hjm : 64 * k + j < pad.length := by have := HM8.out; omega
                  have hbj := HBE.out j h2
                  have ec : (Lib.byteCells pad)[64 * k + j]? = some (.int .u8 ((pad[64 * k + j]).toNat : Nat)) := by simp [Lib.byteCells, hjm]
                  have hcell := HROWR.out.cell ec
                  have HTS := Lib.hid (take_snoc' hbj)
                  generalize pad[64 * k + j] = c at *
                  have hjt : (blk.take j).length = j := by rw [List.length_take]; omega
                  have hq1 : (64 * (k : Int) + (j : Int)) < (m2 : Int) := by omega
                  have hq2 : 0 ≤ (64 * (k : Int) + (j : Int)) := by omega
                  have hq3 : (64 * (k : Int) + (j : Int)).toNat = 64 * k + j := by omega
                  have cz := arr_cell hx (cellsBy_zero (n := 64) (ws := blk.take j) (i := j) (by omega) (by omega))
                  have sz := is_some cz
                  have fz := arr_frozen (i := j) hx
                  have HX := Lib.hid hx
                  have HG := Lib.hid hG
                  have HJT := Lib.hid hjt
                  clear ec hbj hx hG hjt hjm
                  go_wp2
                  go_roundw
                  case rel =>
                    refine ⟨j + 1, by omega, by go_num, ?_, gro_set HG.out _ _⟩
                    rw [HTS.out]
                    have hpu := arr_pushB (x := c) HX.out (by have := HJT.out; omega)
                    rw [HJT.out] at hpu
                    exact hpu
                  case measure => simp [intOf]; omega
                · obtain rfl : j = 64 := by omega
                  rw [List.take_of_length_le (by omega), cellsBy_all hbl] at hx
                  have hxh := (hG.block _ (heap_lt HXHQ.out) (fun e => by have := Option.some.inj e; omega)).trans HXHQ.out
                  have hBr := HBQ.out.trans (gro_below hG hszw HBQ.out.size)
                  have hsb : (Tryz.prog.info? 72).map (·.size) = some (blk.map bV).toArray.size := by
                    simp only [List.size_toArray, List.length_map, hbl]
                    kernel_rfl
                  have hsh : (Tryz.prog.info? 70).map (·.size) = some ((hv.words.map wV).toArray).size := by kernel_rfl
                  have CB := rblock_walk hv hok blk hbl wr
                  obtain ⟨hn, hhn⟩ : ∃ hn, blockH hv blk = hn := ⟨_, rfl⟩
                  rw [hhn] at CB HBK
                  clear hhn
                  have HX := Lib.hid hx
                  have HXH := Lib.hid hxh
                  have HB := Lib.hid hBr
                  rw [show ((64 : Nat) : Int) = 64 from rfl]
                  clear hG hBr hj h2
                  go_upto_region 18 with fail
                  apply wp_region_lit
                  refine wpList_load_row rfl 70 _ rfl w3.heap.size rfl 70 _ _ _ HXH.out Tryz.underlying70 rfl hsh ?_
                  refine wpList_load_row rfl 72 _ rfl wl.heap.size rfl 72 _ _ _ HX.out Tryz.underlying72 rfl hsb ?_
                  clear hx hxh hsb hsh
                  go_wp2_with fail
                  refine CB.mono ?_
                  rintro e w5 ⟨rfl, hb5⟩
                  have hxh5 := (hb5.block _ (heap_lt HXH.out)).trans HXH.out
                  have HROW5 := Lib.hid (HROWR.out.below hb5)
                  have HB5 := Lib.hid (below_chain HB.out hb5 HB.out.size)
                  have hso : (hv.words.map wV).toArray.size = (hn.words.map wV).toArray.size := rfl
                  have hs8 : (Tryz.prog.info? 70).map (·.size) = some ((hn.words.map wV).toArray).size := by kernel_rfl
                  have ho8 := one_map (f := wV) (fun _ => rfl) hn.words
                  clear hb5 CB
                  go_upto_region 12 with (refine wpList_store_row rfl 70 _ _ rfl w3.heap.size (hn.words.map wV).toArray rfl rfl 70 _ hxh5 hs8 hso ho8 ?_; simp only [Act.put])
                  generalize hw6 : World.setRow _ _ _ = w6
                  have HXH6 : Hid (w6.heap[w3.heap.size]? = some (.cells ((blocksH h0Sha pad (k + 1)).words.map wV).toArray 70 (0, 0))) := Lib.hid (by
                    rw [← hw6, HBK.out]
                    exact setRow_heap w5 _ _ _ _ _ hxh5)
                  have HROW6 : Hid (RowM w6 w.heap.size 5 (.slice (some ⟨g, 0, none⟩) m2 cp) (Lib.byteCells pad)) := Lib.hid (by
                    rw [← hw6]
                    exact HROW5.out.kept (k := w3.heap.size) ⟨rfl, rfl, rfl, by simp, fun q hq hne => setRow_other _ _ _ _ (fun e => hne (by rw [e]))⟩ (by have := HGL.out; omega))
                  have HB6 : Hid (Below w.heap.size w w6) := Lib.hid (by
                    rw [← hw6]
                    exact below_setRow HB5.out HW3.out _)
                  clear hw6 hxh5 hso hs8 ho8 HROW5 HB5 HBK
                  go_wp2
                  go_roundw
                  case rel => exact ⟨k + 1, by omega, congrArg (Value.int IntKind.i64) (by omega), HROW6.out, HXH6.out, HB6.out⟩
                  case measure => simp [intOf]; omega
            · have hkm : k = m2 / 64 := by omega
              have h1' : ¬ (64 * (k : Int) < (m2 : Int)) := by omega
              rw [← hkm] at HSH
              have hok := blocksH_ok h0_ok pad k
              generalize blocksH h0Sha pad k = R at *
              have HSW := Lib.hid (show shaF s = R.words.flatMap wordBytes from HSH.out)
              clear HSH HROW hkm h1 hk h64
              go_wp2
              obtain ⟨wk, rfl⟩ : ∃ wk : World, wk = wr := ⟨_, rfl⟩
              go_loopw [11, 10] (fun i v w' => ∃ j : Nat, j ≤ 8 ∧ i = .int .i64 (j : Int) ∧ w'.ownsRow w.heap.size 5 1 v ((R.words.take j).flatMap wordBytes).length (Lib.byteCells ((R.words.take j).flatMap wordBytes)) ∧ w'.heap[w3.heap.size]? = some (.cells (R.words.map wV).toArray 70 (0, 0)) ∧ Below w.heap.size w w' ∧ (∀ b, v.ownBlock = some b → b ≠ w3.heap.size)) (fun i _ _ => 8 - (intOf i).toNat)
              case atStart => exact ⟨0, Nat.zero_le _, rfl, World.ownsRow_nil _ _ _ _, HXH.out, HB.out, by intro b hb; cases hb⟩
              case round =>
                clear HXH HB hb3h hszw
                obtain ⟨j, hj, rfl, hown, hxh, hB, hob⟩ := hrel
                by_cases h2 : j < 8
                · have h2' : (j : Int) < 8 := by omega
                  have hjl : j < R.words.length := h2
                  have hc := arr_cell hxh (map_at (f := wV) hjl)
                  have HT := Lib.hid (flat_snoc hjl)
                  have hfl : ((R.words.take j).flatMap wordBytes).length ≤ 100 := by rw [wordBytes_flat, List.length_take]; omega
                  generalize R.words[j] = x at *
                  unfold wV at hc
                  generalize hfw : (R.words.take j).flatMap wordBytes = out at *
                  obtain ⟨wd, hwd, r9, hown9, hxh9, hB9⟩ : ∃ wd : World, wd = { wr with drawn := wr.drawn + 1 } ∧ wd.cell? ⟨w3.heap.size, j, none⟩ = some (.int .u32 ((x : Nat) : Int)) ∧ wd.ownsRow w.heap.size 5 1 u10 out.length (Lib.byteCells out) ∧ wd.heap[w3.heap.size]? = some (.cells (R.words.map wV).toArray 70 (0, 0)) ∧ Below w.heap.size w wd :=
                    ⟨_, rfl, hc, own_on hown ⟨rfl, rfl, rfl, Nat.le_refl _, fun _ _ => rfl⟩, hxh, ⟨hB.os, hB.tape, hB.output, hB.size, hB.block⟩⟩
                  have HLT := Lib.hid (fun vb (h : u10.ownBlock = some vb) => (hown9.lt vb h).2)
                  obtain ⟨cs, hcs⟩ : ∃ cs : List Value, cs = [.int .u8 (IntKind.u8.wrap ((x : Int) / 16777216)), .int .u8 (IntKind.u8.wrap ((x : Int) / 65536)), .int .u8 (IntKind.u8.wrap ((x : Int) / 256)), .int .u8 (IntKind.u8.wrap (x : Int))] := ⟨_, rfl⟩
                  have hcs2 : Lib.byteCells (wordBytes x) = cs := by
                    rw [hcs]
                    simp only [Lib.byteCells, wordBytes, List.map_cons, List.map_nil, ofNat_nat, IntKind.wrap_u8]
                    rfl
                  have HCS := Lib.hid hcs
                  have HCS2 := Lib.hid hcs2
                  have r10 := cell_old r9 (.cells #[.int .u8 (IntKind.u8.wrap ((x : Int) / 16777216)), .int .u8 (IntKind.u8.wrap ((x : Int) / 65536)), .int .u8 (IntKind.u8.wrap ((x : Int) / 256)), .int .u8 (IntKind.u8.wrap (x : Int))] 5)
                  have HR10 := Lib.hid r10
                  have HO10 := Lib.hid (hown9.alloc (.cells #[.int .u8 (IntKind.u8.wrap ((x : Int) / 16777216)), .int .u8 (IntKind.u8.wrap ((x : Int) / 65536)), .int .u8 (IntKind.u8.wrap ((x : Int) / 256)), .int .u8 (IntKind.u8.wrap (x : Int))] 5))
                  have HX10 := Lib.hid ((heap_alloc_old (w := wd) (.cells #[.int .u8 (IntKind.u8.wrap ((x : Int) / 16777216)), .int .u8 (IntKind.u8.wrap ((x : Int) / 65536)), .int .u8 (IntKind.u8.wrap ((x : Int) / 256)), .int .u8 (IntKind.u8.wrap (x : Int))] 5) (heap_lt hxh9)).trans hxh9)
                  have HB10 := Lib.hid (hB9.alloc hB9.size (.cells #[.int .u8 (IntKind.u8.wrap ((x : Int) / 16777216)), .int .u8 (IntKind.u8.wrap ((x : Int) / 65536)), .int .u8 (IntKind.u8.wrap ((x : Int) / 256)), .int .u8 (IntKind.u8.wrap (x : Int))] 5))
                  have HNC : Hid (∀ (q : Nat) u, cs[q]? = some u → (wd.alloc (.cells #[.int .u8 (IntKind.u8.wrap ((x : Int) / 16777216)), .int .u8 (IntKind.u8.wrap ((x : Int) / 65536)), .int .u8 (IntKind.u8.wrap ((x : Int) / 256)), .int .u8 (IntKind.u8.wrap (x : Int))] 5)).cell? ((⟨wd.heap.size, 0, none⟩ : Addr).add q) = some u) := Lib.hid (by
                    intro q u hq
                    rw [Addr.add_lit, Nat.zero_add]
                    refine cell_new _ _ _ _ ?_
                    rw [hcs] at hq
                    simpa using hq)
                  have HONE : Hid (∀ u ∈ cs, u.oneCell' = true) := Lib.hid (by rw [hcs]; intro u hu; simp at hu; rcases hu with rfl | rfl | rfl | rfl <;> rfl)
                  have HSZ9 := Lib.hid hB9.size
                  have HOB := Lib.hid hob
                  have HCL := Lib.hid (show cs.length = 4 by rw [hcs]; rfl)
                  clear hown hxh hB hob hjl hfw hc hown9 hxh9 hB9 hcs hcs2 r10
                  go_upto_region 23 with fail
                  (refine wp_region_held (S := fun w' => w'.cell? ⟨w3.heap.size, j, none⟩ = some (.int .u32 ((x : Nat) : Int))) (by kernel_rfl) ?_)
                  rw [← hwd]
                  clear hwd
                  (refine wpAnyH_take (i := 0) (v := ?_) rfl (by kernel_rfl) (by kernel_rfl) (by kernel_rfl) (fun _ _ _ h => h) (Or.inl ⟨by rfl, ?_⟩) (by exact r9) ?_; rotate_left; (intro w9 hS9; skip; go_simp; try with_reducible rfl))
                  (refine wpAnyH_take (i := 1) (v := ?_) rfl (by kernel_rfl) (by kernel_rfl) (by kernel_rfl) (fun _ _ _ h => h) (Or.inl ⟨by rfl, ?_⟩) (by exact r9) ?_; rotate_left; (intro w9 hS9; skip; go_simp; try with_reducible rfl))
                  (refine wpAnyH_take (i := 2) (v := ?_) rfl (by kernel_rfl) (by kernel_rfl) (by kernel_rfl) (fun _ _ _ h => h) (Or.inl ⟨by rfl, ?_⟩) (by exact r9) ?_; rotate_left; (intro w9 hS9; skip; go_simp; try with_reducible rfl))
                  (refine wpAnyH_take (i := 3) (v := ?_) rfl (by kernel_rfl) (by kernel_rfl) (by kernel_rfl) (fun _ _ _ h => h) (Or.inl ⟨by rfl, ?_⟩) (by exact r9) ?_; rotate_left; (intro w9 hS9; (replace hS9 : w9.cell? ⟨w3.heap.size, j, none⟩ = some (.int .u32 ((x : Nat) : Int)) := hS9); go_simp; try with_reducible rfl))
                  (refine wpAnyH_take (i := 4) (v := ?_) rfl (by kernel_rfl) (by kernel_rfl) (by kernel_rfl) (fun _ _ _ h => h) (Or.inl ⟨by rfl, ?_⟩) (by exact r9) ?_; rotate_left; (intro w9 hS9; skip; go_simp; try with_reducible rfl))
                  go_simp
                  (refine wpAnyH_take (i := 5) (v := ?_) rfl (by kernel_rfl) (by kernel_rfl) (by kernel_rfl) (fun _ _ _ h => h) (Or.inl ⟨by rfl, ?_⟩) (by exact r9) ?_; rotate_left; (intro w9 hS9; skip; go_simp; try with_reducible rfl))
                  (refine wpAnyH_take (i := 6) (v := ?_) rfl (by kernel_rfl) (by kernel_rfl) (by kernel_rfl) (fun _ _ _ h => h) (Or.inl ⟨by rfl, ?_⟩) (by exact r9) ?_; rotate_left; (intro w9 hS9; skip; go_simp; try with_reducible rfl))
                  (refine wpAnyH_take (i := 7) (v := ?_) rfl (by kernel_rfl) (by kernel_rfl) (by kernel_rfl) (fun _ _ _ h => h) (Or.inl ⟨by rfl, ?_⟩) (by exact r9) ?_; rotate_left; (intro w9 hS9; skip; go_simp; try with_reducible rfl))
                  (refine wpAnyH_take (i := 8) (v := ?_) rfl (by kernel_rfl) (by kernel_rfl) (by kernel_rfl) (fun _ _ _ h => h) (Or.inl ⟨by rfl, ?_⟩) (by exact r9) ?_; rotate_left; (intro w9 hS9; (replace hS9 : w9.cell? ⟨w3.heap.size, j, none⟩ = some (.int .u32 ((x : Nat) : Int)) := hS9); go_simp; try with_reducible rfl))
                  (refine wpAnyH_take (i := 9) (v := ?_) rfl (by kernel_rfl) (by kernel_rfl) (by kernel_rfl) (fun _ _ _ h => h) (Or.inl ⟨by rfl, ?_⟩) (by exact r9) ?_; rotate_left; (intro w9 hS9; skip; go_simp; try with_reducible rfl))
                  go_simp
                  (refine wpAnyH_take (i := 10) (v := ?_) rfl (by kernel_rfl) (by kernel_rfl) (by kernel_rfl) (fun _ _ _ h => h) (Or.inl ⟨by rfl, ?_⟩) (by exact r9) ?_; rotate_left; (intro w9 hS9; skip; go_simp; try with_reducible rfl))
                  (refine wpAnyH_take (i := 11) (v := ?_) rfl (by kernel_rfl) (by kernel_rfl) (by kernel_rfl) (fun _ _ _ h => h) (Or.inl ⟨by rfl, ?_⟩) (by exact r9) ?_; rotate_left; (intro w9 hS9; skip; go_simp; try with_reducible rfl))
                  (refine wpAnyH_take (i := 12) (v := ?_) rfl (by kernel_rfl) (by kernel_rfl) (by kernel_rfl) (fun _ _ _ h => h) (Or.inl ⟨by rfl, ?_⟩) (by exact r9) ?_; rotate_left; (intro w9 hS9; skip; go_simp; try with_reducible rfl))
                  (refine wpAnyH_take (i := 13) (v := ?_) rfl (by kernel_rfl) (by kernel_rfl) (by kernel_rfl) (fun _ _ _ h => h) (Or.inl ⟨by rfl, ?_⟩) (by exact r9) ?_; rotate_left; (intro w9 hS9; (replace hS9 : w9.cell? ⟨w3.heap.size, j, none⟩ = some (.int .u32 ((x : Nat) : Int)) := hS9); go_simp; try with_reducible rfl))
                  (refine wpAnyH_take (i := 14) (v := ?_) rfl (by kernel_rfl) (by kernel_rfl) (by kernel_rfl) (fun _ _ _ h => h) (Or.inl ⟨by rfl, ?_⟩) (by exact r9) ?_; rotate_left; (intro w9 hS9; skip; go_simp; try with_reducible rfl))
                  go_simp
                  (refine wpAnyH_take (i := 15) (v := ?_) rfl (by kernel_rfl) (by kernel_rfl) (by kernel_rfl) (fun _ _ _ h => h) (Or.inl ⟨by rfl, ?_⟩) (by exact r9) ?_; rotate_left; (intro w9 hS9; skip; go_simp; try with_reducible rfl))
                  (refine wpAnyH_take (i := 16) (v := ?_) rfl (by kernel_rfl) (by kernel_rfl) (by kernel_rfl) (fun _ _ _ h => h) (Or.inl ⟨by rfl, ?_⟩) (by exact r9) ?_; rotate_left; (intro w9 hS9; skip; go_simp; try with_reducible rfl))
                  (refine wpAnyH_take (i := 17) (v := ?_) rfl (by kernel_rfl) (by kernel_rfl) (by kernel_rfl) (fun _ _ _ h => h) (Or.inl ⟨by rfl, ?_⟩) (by exact r9) ?_; rotate_left; (intro w9 hS9; skip; go_simp; try with_reducible rfl))
                  (refine wpAnyH_take (i := 18) (v := ?_) rfl (by kernel_rfl) (by kernel_rfl) (by kernel_rfl) (fun _ _ _ h => h) (Or.inl ⟨by rfl, ?_⟩) (by exact r9) ?_; rotate_left; (intro w9 hS9; (replace hS9 : w9.cell? ⟨w3.heap.size, j, none⟩ = some (.int .u32 ((x : Nat) : Int)) := hS9); go_simp; try with_reducible rfl))
                  (refine wpAnyH_take (i := 19) (v := ?_) rfl (by kernel_rfl) (by kernel_rfl) (by kernel_rfl) (fun _ _ _ h => h) (Or.inl ⟨by rfl, ?_⟩) (by exact r9) ?_; rotate_left; (intro w9 hS9; skip; go_simp; try with_reducible rfl))
                  go_simp
                  (refine wpAnyH_one (i := 20) (by kernel_rfl) rfl (fun K hK => ?_); go_simp; refine hK _ _ (HR10.out) ?_; clear hK K)
                  refine wpAnyH_one (i := 21) (by kernel_rfl) rfl (fun K hK => ?_)
                  rw [if_pos (by rfl)]
                  refine wp_append_own _ (.tmp 66) (.tmp 86) 54 rfl w.heap.size 5 i0 (.int .u8 0) 1 1 Tryz.underlying54 hi hz0 hz1 hz2 rfl (by decide) u10 out.length (Lib.byteCells out) rfl HO10.out ⟨wd.heap.size, 0, none⟩ 4 4 cs rfl (by rw [HCL.out]) HNC.out HONE.out (by unfold maxLen; omega) (by omega) (by have := HSZ9.out; simp; omega) ?_
                  intro v' w5 hown5 hgrow _
                  have HB5 : Hid (Below w.heap.size w w5) := Lib.hid (HB10.out.grown hgrow (by have := HSZ9.out; simp; omega) (fun q hq => (HO10.out.lt q hq).1))
                  have HO5 : Hid (w5.ownsRow w.heap.size 5 1 v' ((R.words.take (j + 1)).flatMap wordBytes).length (Lib.byteCells ((R.words.take (j + 1)).flatMap wordBytes))) := Lib.hid (by
                    rw [HT.out, byteCells_app, HCS2.out, List.length_append]
                    exact hown5)
                  have hne : some w3.heap.size ≠ u10.ownBlock := fun e => HOB.out _ e.symm rfl
                  have HX5 := Lib.hid ((hgrow.block w3.heap.size (heap_lt HX10.out) hne).trans HX10.out)
                  have hr5 : w5.cell? ⟨w3.heap.size, j, none⟩ = some (.int .u32 ((x : Nat) : Int)) := (World.cell?_of_block (hgrow.block w3.heap.size (lt_of_cell HR10.out) hne)).trans HR10.out
                  have HOB5 : Hid (∀ b, v'.ownBlock = some b → b ≠ w3.heap.size) := Lib.hid (by
                    intro q hq e
                    rcases HO5.out.2 with ⟨h0, _⟩ | ⟨g5, cap5, cur5, hv5, _, hg5, _⟩
                    · rw [h0] at hq
                      cases hq
                    · rw [hv5] at hq
                      have hq2 : g5 = q := Option.some.inj hq
                      rw [hq2, e, HX5.out] at hg5
                      have h3 := Option.some.inj hg5
                      injection h3 with _ h4 _
                      exact absurd h4 (by decide))
                  refine hK _ _ hr5 ?_
                  clear hK K hgrow hown5 hne
                  (refine wpAnyH_one (i := 22) (by kernel_rfl) rfl (fun K hK => ?_); go_simp; refine hK _ _ (hr5) ?_; clear hK K)
                  (refine wpAnyH_done (by kernel_rfl) ?_ _)
                  go_wp2
                  go_roundw
                  case rel => exact ⟨j + 1, by omega, by go_num, HO5.out, HX5.out, HB5.out, HOB5.out⟩
                  case measure => simp [intOf]; omega
                · obtain rfl : j = 8 := by omega
                  rw [show (R.words.take 8).flatMap wordBytes = shaF s by rw [HSW.out]; rfl] at hown
                  have hcv2 := bytes_back hown
                  have HB := Lib.hid hB
                  clear hown hxh hB hob h2
                  rw [show ((8 : Nat) : Int) = 8 from rfl]
                  go_wp2
                  go_ret
                  exact ⟨rfl, HB.out⟩
    · have h56' : ((m : Int) % 64 == 56) = false := by rw [beq_eq_false_iff_ne]; omega
      have h56n : (!((m : Int) % 64 == 56)) = true := by rw [h56']; rfl
      have h56m : ((m : Int) % 64 != 56) = true := by rw [bne, h56']; rfl
      have hzs := zerosN_succ h56
      have HZS := Lib.hid hzs
      have HM := Lib.hid hm
      obtain ⟨ys, hys⟩ : ∃ ys, s ++ [128] ++ List.replicate j 0 = ys := ⟨_, rfl⟩
      have HYS := Lib.hid (show s ++ [128] ++ List.replicate (j + 1) 0 = ys ++ [0] by rw [List.replicate_succ', ← List.append_assoc, hys])
      rw [hys] at HROW HLEN
      clear h56 hzs hm hys
      go_wp2_with (at_builtin; refine wpList_append_rowm _ rfl _ _ 54 rfl 5 i0 (.int .u8 0) 1 Tryz.underlying54 hi hz0 hz1 hz2 rfl w.heap.size _ _ rfl (HROW.out.below ((Below.refl _ _).alloc (Nat.le_refl _) _)) ⟨wr.heap.size, 0, none⟩ 1 1 [.int .u8 0] rfl rfl (new_cell _ _ _) (by intro u hu; simp at hu; subst hu; rfl) (by rw [HLEN.out]; unfold maxLen; omega) (by rw [HLEN.out]; omega) (by simp; omega) ?_)
      intro v3 w3 hrow3 hb3
      have HB3 := Lib.hid ((HB.out.trans ((Below.refl w.heap.size wr).alloc hbs _)).trans hb3)
      have hrow4 : RowM w3 w.heap.size 5 v3 (Lib.byteCells (s ++ [128] ++ List.replicate (j + 1) 0)) := by
        rw [HYS.out, byteCells_app]
        exact hrow3
      obtain ⟨g3, cp3, hv3, -⟩ := hrow4.slice
      have HR4 := Lib.hid hrow4
      have hsl : sliceLen v3 = m + 1 := by
        rw [hv3]
        show (Lib.byteCells _).length = _
        rw [byteCells_len]
        simp only [List.length_append, List.length_replicate, List.length_singleton]
        have := HM.out
        omega
      have HSL := Lib.hid hsl
      clear hrow3 hb3 hrow4 hv3 hsl
      go_wp2
      go_roundw
      case rel => exact ⟨j + 1, HR4.out, by have h1 := HJ.out; have h2 := HZS.out; have h3 := HM.out; rw [h1, h2, show s.length + 1 + (j + 1) = m + 1 by omega]; omega, HB3.out⟩
      case measure =>
        show zerosN (sliceLen v3) < zerosN m
        rw [HSL.out, HZS.out]
        omega
end Go.Proofs.YtnnjgokaabaaoaaGreatDoor
