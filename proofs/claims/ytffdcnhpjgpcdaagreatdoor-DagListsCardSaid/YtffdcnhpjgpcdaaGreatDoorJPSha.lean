/- The program's sums. The program's words of a block. The program's block of a sum. The program's feeder of a sum. The program's sum of a text. -/
import Derived.Test.YtffdcnhpjgpcdaaGreatDoorJSha
import Derived.Test.YtffdcnhpjgpcdaaGreatDoorJTail
import Derived.Test.YtffdcnhpjgpcdaaGreatDoorRdG
import Derived.Test.YtffdcnhpjgpcdaaGreatDoorBldS
namespace Go.Proofs.YtffdcnhpjgpcdaaGreatDoor
open Go.RowKit

set_option maxHeartbeats 2000000 in
set_option maxRecDepth 100000 in
theorem rotl_walk (x n : Nat) (w : World) (hx : x < 4294967296) (h0 : 0 < n) (hn : n < 32) :
    Calls Tryz.prog 121 #[.int .u32 x, .int .i64 (-(n : Int))] w fun e w' => e = .returned (.int .u32 (rotN n x : Nat)) ∧ w' = w := by
  have hs : bits BinOp.and IntKind.u64 (IntKind.u64.wrap (-(n : Int))) 31 = 32 - (n : Int) := by
    have e : IntKind.u64.wrap (-(n : Int)) = ((18446744073709551616 - n : Nat) : Int) := by simp only [IntKind.wrap, IntKind.bits, IntKind.signed]; simp; omega
    rw [e, show (31 : Int) = ((31 : Nat) : Int) from rfl, u64_and_nat _ _ (by omega) (by omega)]
    have := Nat.and_two_pow_sub_one_eq_mod (18446744073709551616 - n) 5
    rw [show (2 : Nat) ^ 5 - 1 = 31 from rfl] at this
    rw [this]
    omega
  go_enter Tryz.func121, Tryz.ntmps121
  go_wp2
  go_ret
  exact ⟨congrArg (fun z => Ending.returned (Value.int IntKind.u32 z)) (by rw [show 32 - (32 - n) = n by omega]; exact bits_rot' (by omega) hx), rfl⟩

set_option maxRecDepth 100000 in
theorem down_walk (x n : Nat) (w : World) (hx : x < 4294967296) (h0 : 0 < n) (hn : n < 32) :
    Calls Tryz.prog 114 #[.int .u32 x, .int .i64 n] w fun e w' => e = .returned (.int .u32 (rotN n x : Nat)) ∧ w' = w := by
  have C := rotl_walk x n w hx h0 hn
  go_enter Tryz.func114, Tryz.ntmps114
  go_wp2_with (go_at_call 121; refine (C).mono ?_; rintro e w' ⟨rfl, rfl⟩)
  go_ret
  exact ⟨rfl, rfl⟩

set_option maxHeartbeats 4000000 in
set_option maxRecDepth 100000 in
theorem const_walk (w : World) :
    Calls Tryz.prog 112 #[] w fun e w' => e = .returned (.agg (kSha.map wV).toArray) ∧ Below w.heap.size w w' := by
  go_enter Tryz.func112, Tryz.ntmps112
  go_upto_region 1 with fail
  generalize hw1 : w.alloc _ = w1
  have hz : w1.heap[w.heap.size]? = some (.cells (Array.replicate 64 (.int .u32 0)) 165 (0, 0)) := by
    rw [← hw1]
    exact heap_alloc_new _ _
  have hb : Below w.heap.size w w1 := by
    rw [← hw1]
    exact (Below.refl _ _).alloc (Nat.le_refl _) _
  clear hw1
  apply wp_region_lit
  refine wpList_build rfl 165 _ rfl (by as_aux_lemma => kernel_rfl) ?_
  refine wpList_store_row rfl 165 _ _ rfl w.heap.size (kSha.map wV).toArray rfl (by as_aux_lemma => kernel_rfl) 165 _ hz (by as_aux_lemma => kernel_rfl) rfl (by as_aux_lemma => kernel_rfl) ?_
  apply wpList_nil
  generalize hw2 : w1.setRow _ _ = w2
  have hz2 : w2.heap[w.heap.size]? = some (.cells (kSha.map wV).toArray 165 (0, 0)) := by
    rw [← hw2]
    exact setRow_heap w1 _ _ _ _ _ hz
  have hb2 : Below w.heap.size w w2 := by
    rw [← hw2]
    exact below_setRow hb (Nat.le_refl _) _
  clear hw2
  rename_i hK
  refine hK _ _ ?_
  apply wp_ret
  exact bodyPost_ret (v := .agg (kSha.map wV).toArray) (results_cell_row rfl _ _ w.heap.size 165 _ _ _ (by as_aux_lemma => kernel_rfl) hz2 Tryz.underlying165 rfl (by as_aux_lemma => kernel_rfl)) rfl ⟨rfl, hb2⟩

set_option maxHeartbeats 4000000 in
set_option maxRecDepth 100000 in
theorem first_walk (w : World) :
    Calls Tryz.prog 90 #[] w fun e w' => e = .returned (.agg (h0Sha.words.map wV).toArray) ∧ Below w.heap.size w w' := by
  go_enter Tryz.func90, Tryz.ntmps90
  go_upto_region 1 with fail
  generalize hw1 : w.alloc _ = w1
  have hz : w1.heap[w.heap.size]? = some (.cells (Array.replicate 8 (.int .u32 0)) 133 (0, 0)) := by
    rw [← hw1]
    exact heap_alloc_new _ _
  have hb : Below w.heap.size w w1 := by
    rw [← hw1]
    exact (Below.refl _ _).alloc (Nat.le_refl _) _
  clear hw1
  apply wp_region_lit
  refine wpList_build rfl 133 _ rfl (by as_aux_lemma => kernel_rfl) ?_
  refine wpList_store_row rfl 133 _ _ rfl w.heap.size (h0Sha.words.map wV).toArray rfl (by as_aux_lemma => kernel_rfl) 133 _ hz (by as_aux_lemma => kernel_rfl) rfl (by as_aux_lemma => kernel_rfl) ?_
  apply wpList_nil
  generalize hw2 : w1.setRow _ _ = w2
  have hz2 : w2.heap[w.heap.size]? = some (.cells (h0Sha.words.map wV).toArray 133 (0, 0)) := by
    rw [← hw2]
    exact setRow_heap w1 _ _ _ _ _ hz
  have hb2 : Below w.heap.size w w2 := by
    rw [← hw2]
    exact below_setRow hb (Nat.le_refl _) _
  clear hw2
  rename_i hK
  refine hK _ _ ?_
  apply wp_ret
  exact bodyPost_ret (v := .agg (h0Sha.words.map wV).toArray) (results_cell_row rfl _ _ w.heap.size 133 _ _ _ (by as_aux_lemma => kernel_rfl) hz2 Tryz.underlying133 rfl (by as_aux_lemma => kernel_rfl)) rfl ⟨rfl, hb2⟩
end Go.Proofs.YtffdcnhpjgpcdaaGreatDoor

namespace Go.Proofs.YtffdcnhpjgpcdaaGreatDoor
open Go.RowKit

set_option maxHeartbeats 4000000 in
set_option maxRecDepth 100000 in
theorem schedule_walk (b : List UInt8) (hl : b.length = 64) (w : World) :
    Calls Tryz.prog 113 #[.agg (b.map bV).toArray] w fun e w' => e = .returned (.agg ((schedW b).map wV).toArray) ∧ Below w.heap.size w w' := by
  go_enter Tryz.func113, Tryz.ntmps113
  go_upto_region 1 with fail
  generalize hw1 : (w.alloc _).alloc _ = w1
  have hz0 : w1.heap[w.heap.size]? = some (.cells (b.map bV).toArray 137 (0, 0)) := by
    rw [← hw1]
    exact heap_alloc2_old _ _ _
  have hz1 : w1.heap[w.heap.size + 1]? = some (.cells ((begW b 0).map wV).toArray 165 (0, 0)) := by
    rw [← hw1, begW_zero]
    exact heap_alloc2_new _ _ _
  have hb : Below w.heap.size w w1 := by
    rw [← hw1]
    exact ((Below.refl _ _).alloc (Nat.le_refl _) _).alloc (by simp) _
  clear hw1
  have hsz : (Tryz.prog.info? 137).map (·.size) = some (b.map bV).toArray.size := by
    simp only [List.size_toArray, List.length_map, hl]
    kernel_rfl
  go_wp2_with (refine wpList_load_row rfl 137 _ rfl w.heap.size rfl 137 _ _ _ hz0 Tryz.underlying137 rfl hsz ?_)
  go_loopw [9, 3, 4] (fun i _ _ wr => ∃ k : Nat, k ≤ 64 ∧ i = .int .i64 k ∧ wr.heap[w.heap.size + 1]? = some (.cells ((begW b k).map wV).toArray 165 (0, 0)) ∧ Below w.heap.size w wr) (fun i _ _ _ => 64 - (intOf i).toNat)
  case atStart => exact ⟨0, Nat.zero_le _, rfl, hz1, hb⟩
  case round =>
    obtain ⟨k, hk, rfl, hzr, hB⟩ := hrel
    by_cases h1 : k < 64
    · have h1' : (k : Int) < 64 := by omega
      have hix : ∀ W : World, (Instr.index 137 (.agg (b.map bV).toArray) (.int .i64 k)).run Tryz.prog W = .ok (.int .u8 ((b[k]'(by omega)).toNat : Nat)) W :=
        run_index_agg 137 5 64 k _ _ _ Tryz.underlying137 Tryz.underlying5 rfl (by kernel_rfl) h1 (map_at (by omega))
      have hq : k / 4 < 64 := by omega
      have hc0 := arr_cell hzr (map_at (f := wV) (i := k / 4) (by rw [begW_len]; exact hq))
      clear hz0 hz1 hb hsz
      have hd1 : 0 ≤ (k : Int) / 4 := by omega
      have hd2 : (k : Int) / 4 < 64 := by omega
      have hd3 : ((k : Int) / 4).toNat = k / 4 := by omega
      have hd4 : 0 ≤ 24 - 8 * ((k : Int) % 4) := by omega
      have hd5 : 24 - 8 * ((k : Int) % 4) ≤ 32 := by omega
      rw [begW_at] at hc0
      unfold wV at hc0
      have HSET := Lib.hid (begW_set (b := b) (i := k) (by omega) hl)
      have hwl := wordB_lt (b.take k) (k / 4)
      generalize wordB (b.take k) (k / 4) = wd at *
      have q0 := LaterOf.cell hc0
      have HZR := Lib.hid hzr
      have HB := Lib.hid hB
      generalize b[k] = c at *
      clear hzr hB
      go_upto_region 4 with fail
      (refine wp_tail_quick 13 1 rfl (by kernel_rfl) (by kernel_rfl) (by kernel_rfl) (by kernel_rfl) ?_; simp only [List.take_succ_cons, List.take_zero]; (repeat (go_big_quiet_step (fail))); refine wpQuiet_nil ?_; intro _ hw1; obtain ⟨lw, hw2⟩ := hw1; subst hw2)
      have HB2 := Lib.hid (below_chain HB.out lw.below HB.out.size)
      have HZ2 := Lib.hid ((lw.below.block _ (heap_lt HZR.out)).trans HZR.out)
      have f1 := arr_frozen (i := k / 4) HZ2.out
      have c1 := q0 lw
      have s1 := is_some c1
      have HOV := Lib.hid (or_val (k := k) hwl (UInt8.toNat_lt c))
      clear q0 HB hc0
      (refine wpAny_ready (rs := [13]) (by kernel_rfl) (by simp) ?_; refine AllReady.cons rfl (fun K hK => ?_) AllReady.nil; go_simp; refine hK _ _ ?_; clear hK K)
      refine wpAny_done (by kernel_rfl) ?_ _
      rw [HOV.out]
      have HA := Lib.hid (arr_set (i := k / 4) (x := wd ||| c.toNat * 2 ^ (24 - 8 * (k % 4))) HZ2.out HB2.out (by omega))
      rw [HSET.out] at HA
      clear HZ2 HB2 f1 c1 s1
      obtain ⟨w3, hw3⟩ : ∃ w3, w3 = lw.world.setCell ⟨w.heap.size + 1, k / 4, none⟩ (.int .u32 ((wd ||| c.toNat * 2 ^ (24 - 8 * (k % 4)) : Nat) : Int)) := ⟨_, rfl⟩
      rw [← hw3]
      have HA2 : Hid (w3.heap[w.heap.size + 1]? = some (.cells ((begW b (k + 1)).map wV).toArray 165 (0, 0)) ∧ Below w.heap.size w w3) := by rw [hw3]; exact HA
      clear hw3 HA
      go_wp2
      go_roundw
      case rel => exact ⟨k + 1, by omega, by go_num, HA2.out.1, HA2.out.2⟩
      case measure => simp [intOf]; omega
    · obtain rfl : k = 64 := by omega
      rw [show ((64 : Nat) : Int) = 64 from rfl]
      go_wp2
      have hz2 : wr.heap[w.heap.size + 1]? = some (.cells (cellsW 64 (firstW b)) 165 (0, 0)) := by
        rw [hzr, begW_end hl]
        simp only [cellsW, List.map_append, List.map_replicate, firstW, List.length_map, List.length_range]
        rfl
      have hfl : (firstW b).length = 16 := by simp [firstW]
      obtain ⟨w2, rfl⟩ : ∃ w2 : World, w2 = wr := ⟨_, rfl⟩
      clear hzr hz0 hz1 hb hsz hk h1
      go_loopw [5] (fun i wr => ∃ (ws : List Nat) (m : Nat), ws.length = m + 16 ∧ m ≤ 48 ∧ i = .int .i64 ((m : Int) + 16) ∧ W32 ws ∧ extW (48 - m) ws = schedW b ∧ wr.heap[w.heap.size + 1]? = some (.cells (cellsW 64 ws) 165 (0, 0)) ∧ Below w.heap.size w wr) (fun i _ => 64 - (intOf i).toNat)
      case atStart => exact ⟨firstW b, 0, hfl, by omega, rfl, firstW_32 b, rfl, hz2, hB⟩
      case round =>
        obtain ⟨ws, m, hwl, hm, rfl, h32, hext, hzr, hB⟩ := hrel
        by_cases h1 : m < 48
        · have h1' : (m : Int) + 16 < 64 := by omega
          have c0 := arr_cell hzr (cellsW_at (i := m) (by omega))
          have c1 := arr_cell hzr (cellsW_at (i := m + 1) (by omega))
          have c9 := arr_cell hzr (cellsW_at (i := m + 9) (by omega))
          have c14 := arr_cell hzr (cellsW_at (i := m + 14) (by omega))
          have cz := arr_cell hzr (cellsW_zero (n := 64) (ws := ws) (i := m + 16) (by omega) (by omega))
          have HN := Lib.hid (nextW_at hwl)
          have HE := Lib.hid ((extW_one (n := 48 - m) (ws := ws) (by omega)).symm.trans hext)
          have hx1 := h32.at (i := m + 1) (by omega)
          have hx0 := h32.at (i := m) (by omega)
          have hx9 := h32.at (i := m + 9) (by omega)
          have hx14 := h32.at (i := m + 14) (by omega)
          generalize ws[m + 1] = x1 at *
          generalize ws[m] = x0 at *
          generalize ws[m + 9] = x9 at *
          generalize ws[m + 14] = x14 at *
          unfold wV at c0 c1 c9 c14
          have q0 := LaterOf.cell c0
          have q1 := LaterOf.cell c1
          have q9 := LaterOf.cell c9
          have q14 := LaterOf.cell c14
          have HZR := Lib.hid hzr
          have HB := Lib.hid hB
          have H32 := Lib.hid h32
          have HWL := Lib.hid hwl
          clear hzr hB h32 hext hwl
          go_upto_region 9 with fail
          (refine wp_region_later (by kernel_rfl) (by kernel_rfl) ?_; (repeat (go_big_quiet_step (fail))); refine wpQuiet_nil ?_; intro _ hw1; obtain ⟨lw, hw2⟩ := hw1; subst hw2)
          obtain ⟨lw0, hlw0⟩ : ∃ lw0, lw0 = lw := ⟨_, rfl⟩
          rw [← hlw0]
          clear hlw0 lw
          have r0 := LaterOf.cell (q0 lw0)
          have r9 := LaterOf.cell (q9 lw0)
          clear q0 q1 q9 q14 c0 c1 c9 c14 cz
          have D1 : ∀ W : World, Calls Tryz.prog 114 #[.int .u32 x1, .int .i64 7] W fun e w' => e = .returned (.int .u32 (rotN 7 x1 : Nat)) ∧ w' = W := fun W => down_walk x1 7 W hx1 (by decide) (by decide)
          have D2 : ∀ W : World, Calls Tryz.prog 114 #[.int .u32 x1, .int .i64 18] W fun e w' => e = .returned (.int .u32 (rotN 18 x1 : Nat)) ∧ w' = W := fun W => down_walk x1 18 W hx1 (by decide) (by decide)
          have D3 : ∀ W : World, Calls Tryz.prog 114 #[.int .u32 x14, .int .i64 17] W fun e w' => e = .returned (.int .u32 (rotN 17 x14 : Nat)) ∧ w' = W := fun W => down_walk x14 17 W hx14 (by decide) (by decide)
          have D4 : ∀ W : World, Calls Tryz.prog 114 #[.int .u32 x14, .int .i64 19] W fun e w' => e = .returned (.int .u32 (rotN 19 x14 : Nat)) ∧ w' = W := fun W => down_walk x14 19 W hx14 (by decide) (by decide)
          go_upto_region 10 with fail
          (refine wp_tail_quick 29 1 rfl (by kernel_rfl) (by kernel_rfl) (by kernel_rfl) (by kernel_rfl) ?_; simp only [List.take_succ_cons, List.take_zero]; (repeat (go_big_quiet_step (first | (go_at_call 114; with_reducible exact LaterOf.still _ (D1 _)) | (go_at_call 114; with_reducible exact LaterOf.still _ (D2 _)) | (go_at_call 114; with_reducible exact LaterOf.still _ (D3 _)) | (go_at_call 114; with_reducible exact LaterOf.still _ (D4 _))))); refine wpQuiet_nil ?_; intro _ hw1; obtain ⟨lw, hw2⟩ := hw1; subst hw2)
          have HB2 := Lib.hid (below_chain (below_chain HB.out lw0.below HB.out.size) lw.below (below_chain HB.out lw0.below HB.out.size).size)
          have HZ2 := Lib.hid ((lw.below.block _ (heap_lt ((lw0.below.block _ (heap_lt HZR.out)).trans HZR.out))).trans ((lw0.below.block _ (heap_lt HZR.out)).trans HZR.out))
          have f1 := arr_frozen (i := m + 16) HZ2.out
          have c1 := arr_cell HZ2.out (cellsW_zero (n := 64) (ws := ws) (i := m + 16) (by have := HWL.out; omega) (by omega))
          have s1 := is_some c1
          have HOV : Hid (((x0 : Int) + x9 + bits BinOp.xor IntKind.u32 (bits BinOp.xor IntKind.u32 ((rotN 7 x1 : Nat) : Int) ((rotN 18 x1 : Nat) : Int)) ((x1 : Int) / 8) + bits BinOp.xor IntKind.u32 (bits BinOp.xor IntKind.u32 ((rotN 17 x14 : Nat) : Int) ((rotN 19 x14 : Nat) : Int)) ((x14 : Int) / 1024)) % 4294967296 = ((nextW ws : Nat) : Int)) := Lib.hid (by
            rw [ssA_val hx1, ssB_val hx14, HN.out]
            omega)
          clear r0 r9 D1 D2 D3 D4
          (refine wpAny_ready (rs := [29]) (by kernel_rfl) (by simp) ?_; refine AllReady.cons rfl (fun K hK => ?_) AllReady.nil; go_simp; refine hK _ _ ?_; clear hK K)
          refine wpAny_done (by kernel_rfl) ?_ _
          rw [HOV.out]
          have HA := Lib.hid (arr_push (x := nextW ws) HZ2.out (by have := HWL.out; omega) HB2.out (by omega))
          rw [HWL.out] at HA
          obtain ⟨w3, hw3⟩ : ∃ w3, w3 = lw.world.setCell ⟨w.heap.size + 1, m + 16, none⟩ (.int .u32 ((nextW ws : Nat) : Int)) := ⟨_, rfl⟩
          rw [← hw3]
          have HA2 : Hid (w3.heap[w.heap.size + 1]? = some (.cells (cellsW 64 (ws ++ [nextW ws])) 165 (0, 0)) ∧ Below w.heap.size w w3) := by rw [hw3]; exact HA
          clear hw3 HA HZ2 HB2 f1 c1 s1
          go_wp2
          go_roundw
          case rel => exact ⟨ws ++ [nextW ws], m + 1, by rw [List.length_append, HWL.out]; rfl, by omega, by go_num, H32.out.snoc (nextW_lt _), by rw [← HE.out, show 48 - (m + 1) = 48 - m - 1 by omega], HA2.out.1, HA2.out.2⟩
          case measure => simp [intOf]; omega
        · obtain rfl : m = 48 := by omega
          have hws : ws = schedW b := hext
          rw [cellsW_all (by omega), hws] at hzr
          have hsz : (Tryz.prog.info? 165).map (·.size) = some (((schedW b).map wV).toArray).size := by
            simp only [List.size_toArray, List.length_map, schedW_len]
            kernel_rfl
          have HB := Lib.hid hB
          have hone := one_map (f := wV) (fun _ => rfl) (schedW b)
          clear hext h32 hws hwl hz2 hB
          go_upto_region 11 with fail
          apply wp_region_lit
          refine wpList_load_row rfl 165 _ rfl (w.heap.size + 1) rfl 165 _ _ _ hzr Tryz.underlying165 rfl hsz ?_
          refine wpList_store_row rfl 165 _ _ rfl (w.heap.size + 1) ((schedW b).map wV).toArray rfl (by as_aux_lemma => kernel_rfl) 165 _ hzr hsz rfl hone ?_
          apply wpList_nil
          generalize hw2 : wr.setRow _ _ = w3
          have hz3 : w3.heap[w.heap.size + 1]? = some (.cells ((schedW b).map wV).toArray 165 (0, 0)) := by
            rw [← hw2]
            exact setRow_heap wr _ _ _ _ _ hzr
          have hb3 : Below w.heap.size w w3 := by
            rw [← hw2]
            exact below_setRow HB.out (by omega) _
          clear hw2
          rename_i hK
          refine hK _ _ ?_
          apply wp_ret
          exact bodyPost_ret (v := .agg ((schedW b).map wV).toArray) (results_cell_row rfl _ _ (w.heap.size + 1) 165 _ _ _ (by as_aux_lemma => kernel_rfl) hz3 Tryz.underlying165 rfl hsz) rfl ⟨rfl, hb3⟩
end Go.Proofs.YtffdcnhpjgpcdaaGreatDoor

namespace Go.Proofs.YtffdcnhpjgpcdaaGreatDoor
open Go.RowKit

theorem H8.cells (v : H8) : (v.words.map wV).toArray = #[wV v.a, wV v.b, wV v.c, wV v.d, wV v.e, wV v.f, wV v.g, wV v.h] := rfl

set_option maxHeartbeats 8000000 in
set_option maxRecDepth 100000 in
theorem block_walk (h : H8) (hh : h.ok) (b : List UInt8) (hl : b.length = 64) (w : World) :
    Calls Tryz.prog 106 #[.agg (h.words.map wV).toArray, .agg (b.map bV).toArray] w fun e w' => e = .returned (.agg ((blockH h b).words.map wV).toArray) ∧ Below w.heap.size w w' := by
  obtain ⟨w1, hw1, hb1, hz0, hz1, hz2⟩ : ∃ w1, w1 = ((w.alloc (.cells (h.words.map wV).toArray 133)).alloc (.cells (b.map bV).toArray 137)).alloc (.cells (Array.replicate 8 (.int .u32 0)) 133) ∧ Below w.heap.size w w1 ∧ w1.heap[w.heap.size]? = some (.cells (h.words.map wV).toArray 133 (0, 0)) ∧ w1.heap[w.heap.size + 1]? = some (.cells (b.map bV).toArray 137 (0, 0)) ∧ w1.heap[w.heap.size + 1 + 1]? = some (.cells (Array.replicate 8 (.int .u32 0)) 133 (0, 0)) := by
    refine ⟨_, rfl, (((Below.refl _ _).alloc (Nat.le_refl _) _).alloc (by simp) _).alloc (by simp; omega) _, ?_, ?_, ?_⟩
    · rw [heap_alloc_old _ _ (by simp; omega)]
      exact heap_alloc2_old _ _ _
    · rw [heap_alloc_old _ _ (by simp)]
      exact heap_alloc2_new _ _ _
    · have := heap_alloc_new ((w.alloc (.cells (h.words.map wV).toArray 133)).alloc (.cells (b.map bV).toArray 137)) (.cells (Array.replicate 8 (.int .u32 0)) 133)
      simpa using this
  have CK := const_walk w1
  have CS := fun W => schedule_walk b hl W
  have hsz : (Tryz.prog.info? 137).map (·.size) = some (b.map bV).toArray.size := by
    simp only [List.size_toArray, List.length_map, hl]
    kernel_rfl
  go_enter Tryz.func106, Tryz.ntmps106
  go_upto_region 1 with fail
  generalize hww : World.alloc _ _ = w1'
  obtain rfl : w1' = w1 := by rw [← hww, hw1]; rfl
  clear hww hw1
  go_wp2_with fail
  refine CK.mono ?_
  rintro e w2 ⟨rfl, hb2⟩
  have hB2 := below_chain hb1 hb2 hb1.size
  have y0 := (hb2.block _ (heap_lt hz0)).trans hz0
  have y1 := (hb2.block _ (heap_lt hz1)).trans hz1
  have y2 := (hb2.block _ (heap_lt hz2)).trans hz2
  clear CK hz0 hz1 hz2
  have hks : (Tryz.prog.info? 165).map (·.size) = some ((kSha.map wV).toArray).size := by kernel_rfl
  have hk1 := one_map (f := wV) (fun _ => rfl) kSha
  go_wp2_with (refine wpList_store_row rfl 165 _ _ rfl w2.heap.size (kSha.map wV).toArray rfl rfl 165 _ (heap_alloc_new _ _) hks rfl hk1 ?_; simp only [Act.put])
  have hg2 : w.heap.size + 1 + 1 < w2.heap.size := heap_lt y2
  generalize hw3 : World.setRow _ _ _ = w3
  have x0 : w3.heap[w.heap.size]? = some (.cells (h.words.map wV).toArray 133 (0, 0)) := by
    rw [← hw3, setRow_other _ _ _ _ (by omega), heap_alloc_old _ _ (by omega)]
    exact y0
  have x1 : w3.heap[w.heap.size + 1]? = some (.cells (b.map bV).toArray 137 (0, 0)) := by
    rw [← hw3, setRow_other _ _ _ _ (by omega), heap_alloc_old _ _ (by omega)]
    exact y1
  have x2 : w3.heap[w.heap.size + 1 + 1]? = some (.cells (Array.replicate 8 (.int .u32 0)) 133 (0, 0)) := by
    rw [← hw3, setRow_other _ _ _ _ (by omega), heap_alloc_old _ _ (by omega)]
    exact y2
  have xk : w3.heap[w2.heap.size]? = some (.cells (kSha.map wV).toArray 165 (0, 0)) := by
    rw [← hw3]
    exact setRow_heap _ _ _ _ _ _ (heap_alloc_new _ _)
  have hB3 : Below w.heap.size w w3 := by
    rw [← hw3]
    exact below_setRow (hB2.alloc hB2.size _) (by omega) _
  clear hw3 y0 y1 y2 hks hk1 hB2 hb2 hb1
  have c0 := LaterOf.cell (arr_cell x0 (i := 0) (v := .int .u32 (h.a : Nat)) rfl)
  have c1 := LaterOf.cell (arr_cell x0 (i := 1) (v := .int .u32 (h.b : Nat)) rfl)
  have c2 := LaterOf.cell (arr_cell x0 (i := 2) (v := .int .u32 (h.c : Nat)) rfl)
  have c3 := LaterOf.cell (arr_cell x0 (i := 3) (v := .int .u32 (h.d : Nat)) rfl)
  have c4 := LaterOf.cell (arr_cell x0 (i := 4) (v := .int .u32 (h.e : Nat)) rfl)
  have c5 := LaterOf.cell (arr_cell x0 (i := 5) (v := .int .u32 (h.f : Nat)) rfl)
  have c6 := LaterOf.cell (arr_cell x0 (i := 6) (v := .int .u32 (h.g : Nat)) rfl)
  have c7 := LaterOf.cell (arr_cell x0 (i := 7) (v := .int .u32 (h.h : Nat)) rfl)
  have X0 := Lib.hid x0
  have X1 := Lib.hid x1
  have X2 := Lib.hid x2
  have XK := Lib.hid xk
  have HSZ := Lib.hid hsz
  clear x0 x1 x2 xk hsz
  (refine wp_region_later (by kernel_rfl) (by kernel_rfl) ?_; (repeat (go_big_quiet_step (fail))); refine wpQuiet_nil ?_; intro _ hw1; obtain ⟨lw, hw2⟩ := hw1; subst hw2)
  have hB4 := below_chain hB3 lw.below hB3.size
  have x0 := (lw.below.block _ (heap_lt X0.out)).trans X0.out
  have x1 := (lw.below.block _ (heap_lt X1.out)).trans X1.out
  have x2 := (lw.below.block _ (heap_lt X2.out)).trans X2.out
  have xk := (lw.below.block _ (heap_lt XK.out)).trans XK.out
  have hsz := HSZ.out
  clear X0 X1 X2 XK HSZ
  clear c0 c1 c2 c3 c4 c5 c6 c7 hB3
  generalize lw.world = w4 at *
  go_upto_region 3 with fail
  apply wp_region_lit
  refine wpList_load_row rfl 137 _ rfl (w.heap.size + 1) rfl 137 _ _ _ x1 Tryz.underlying137 rfl hsz ?_
  have CS4 := CS w4
  clear CS
  go_wp2_with fail
  refine CS4.mono ?_
  rintro e w5 ⟨rfl, hb5⟩
  have hB5 := below_chain hB4 hb5 hB4.size
  have z0 := (hb5.block _ (heap_lt x0)).trans x0
  have z2 := (hb5.block _ (heap_lt x2)).trans x2
  have zk := (hb5.block _ (heap_lt xk)).trans xk
  clear x0 x1 x2 xk hB4 hb5 CS4
  go_wp2
  have hsl := schedW_len b
  have hs32 := schedW_32 b
  have HBH := Lib.hid (show blockH h b = addH h (runH h (schedW b) 64) from rfl)
  generalize schedW b = ws at *
  clear hsz lw
  have HSL := Lib.hid hsl
  have HS32 := Lib.hid hs32
  have Z0 := Lib.hid z0
  have Z2 := Lib.hid z2
  have ZK := Lib.hid zk
  clear hsl hs32 z0 z2 zk
  go_loopw [39, 6, 7, 8, 9, 10, 11, 12, 13] (fun i a1 a2 a3 a4 a5 a6 a7 a8 wr => ∃ (k : Nat) (v : H8), k ≤ 64 ∧ i = .int .i64 k ∧ v = runH h ws k ∧ a1 = .int .u32 (v.a : Nat) ∧ a2 = .int .u32 (v.b : Nat) ∧ a3 = .int .u32 (v.c : Nat) ∧ a4 = .int .u32 (v.d : Nat) ∧ a5 = .int .u32 (v.e : Nat) ∧ a6 = .int .u32 (v.f : Nat) ∧ a7 = .int .u32 (v.g : Nat) ∧ a8 = .int .u32 (v.h : Nat) ∧ Below w5.heap.size w5 wr) (fun i _ _ _ _ _ _ _ _ _ => 64 - (intOf i).toNat)
  case atStart => exact ⟨0, h, Nat.zero_le _, rfl, rfl, rfl, rfl, rfl, rfl, rfl, rfl, rfl, rfl, Below.refl _ _⟩
  case round =>
    obtain ⟨k, v, hk, rfl, hv, rfl, rfl, rfl, rfl, rfl, rfl, rfl, rfl, hbr⟩ := hrel
    have hvo : v.ok := hv ▸ runH_ok hh ws k
    have HV := Lib.hid hv
    clear hv
    by_cases h1 : k < 64
    · have h1' : (k : Int) < 64 := by omega
      have hix : ∀ W : World, (Instr.index 165 (.agg (ws.map wV).toArray) (.int .i64 k)).run Tryz.prog W = .ok (.int .u32 ((ws[k]'(by have := HSL.out; omega) : Nat) : Int)) W :=
        run_index_agg 165 84 64 k _ _ _ Tryz.underlying165 Tryz.underlying84 rfl (by kernel_rfl) h1 (map_at (by have := HSL.out; omega))
      have hkl : k < kSha.length := h1
      have ck := LaterOf.cell (arr_cell ((hbr.block _ (heap_lt ZK.out)).trans ZK.out) (map_at (f := wV) hkl))
      unfold wV at ck
      have HST := Lib.hid (show runH h ws (k + 1) = stepH (runH h ws k) (kSha.getD k 0) (ws.getD k 0) from rfl)
      rw [getD_nat hkl, getD_nat (ws := ws) (i := k) (by have := HSL.out; omega), ← HV.out] at HST
      have hkk : kSha[k] < 4294967296 := (show W32 kSha by unfold W32; decide) _ (List.getElem_mem _)
      have hww := HS32.out.at (i := k) (by have := HSL.out; omega)
      generalize kSha[k] = kk at *
      generalize ws[k]'(by have := HSL.out; omega) = ww at *
      clear hkl
      obtain ⟨a, b0, c, d, e, f, g, h0⟩ := v
      obtain ⟨ha, hb, hc, hd, he, hf, hg, hh0⟩ := hvo
      simp only at ha hb hc hd he hf hg hh0
      simp only
      have D1 : ∀ W : World, Calls Tryz.prog 114 #[.int .u32 e, .int .i64 6] W fun r w' => r = .returned (.int .u32 (rotN 6 e : Nat)) ∧ w' = W := fun W => down_walk e 6 W he (by decide) (by decide)
      have D2 : ∀ W : World, Calls Tryz.prog 114 #[.int .u32 e, .int .i64 11] W fun r w' => r = .returned (.int .u32 (rotN 11 e : Nat)) ∧ w' = W := fun W => down_walk e 11 W he (by decide) (by decide)
      have D3 : ∀ W : World, Calls Tryz.prog 114 #[.int .u32 e, .int .i64 25] W fun r w' => r = .returned (.int .u32 (rotN 25 e : Nat)) ∧ w' = W := fun W => down_walk e 25 W he (by decide) (by decide)
      have E1 : ∀ W : World, Calls Tryz.prog 114 #[.int .u32 a, .int .i64 2] W fun r w' => r = .returned (.int .u32 (rotN 2 a : Nat)) ∧ w' = W := fun W => down_walk a 2 W ha (by decide) (by decide)
      have E2 : ∀ W : World, Calls Tryz.prog 114 #[.int .u32 a, .int .i64 13] W fun r w' => r = .returned (.int .u32 (rotN 13 a : Nat)) ∧ w' = W := fun W => down_walk a 13 W ha (by decide) (by decide)
      have E3 : ∀ W : World, Calls Tryz.prog 114 #[.int .u32 a, .int .i64 22] W fun r w' => r = .returned (.int .u32 (rotN 22 a : Nat)) ∧ w' = W := fun W => down_walk a 22 W ha (by decide) (by decide)
      have HBR := Lib.hid hbr
      clear hbr
      go_upto_region 6 with fail
      (refine wp_region_later (by kernel_rfl) (by kernel_rfl) ?_; (repeat (go_big_quiet_step (first | (go_at_call 114; with_reducible exact LaterOf.still _ (D1 _)) | (go_at_call 114; with_reducible exact LaterOf.still _ (D2 _)) | (go_at_call 114; with_reducible exact LaterOf.still _ (D3 _))))); refine wpQuiet_nil ?_; intro _ hw1; obtain ⟨lw, hw2⟩ := hw1; subst hw2)
      have HBL := Lib.hid (below_chain HBR.out lw.below HBR.out.size)
      generalize lw.world = w6 at *
      go_wp2_with (first | (go_at_call 114; (with_reducible refine (E1 _).mono ?_); rintro r wz ⟨rfl, rfl⟩) | (go_at_call 114; (with_reducible refine (E2 _).mono ?_); rintro r wz ⟨rfl, rfl⟩) | (go_at_call 114; (with_reducible refine (E3 _).mono ?_); rintro r wz ⟨rfl, rfl⟩))
      go_roundw
      case rel =>
        rw [bsE_val he, chP_val he hf hg, bsA_val ha, majP_val ha hb hc]
        exact ⟨k + 1, stepH ⟨a, b0, c, d, e, f, g, h0⟩ kk ww, by omega, by go_num, by rw [HST.out], congrArg (Value.int IntKind.u32) stepH_a, rfl, rfl, rfl, congrArg (Value.int IntKind.u32) stepH_e, rfl, rfl, rfl, HBL.out⟩
      case measure => simp [intOf]; omega
    · obtain rfl : k = 64 := by omega
      have hB := below_chain hB5 hbr hB5.size
      have z0 := (hbr.block _ (heap_lt Z0.out)).trans Z0.out
      have z2 := (hbr.block _ (heap_lt Z2.out)).trans Z2.out
      rw [← HV.out] at HBH
      obtain ⟨A, hA⟩ : ∃ A, (addH h v).words = A := ⟨_, rfl⟩
      have hAl : A.length = h.words.length := by rw [← hA]; rfl
      have HAT := Lib.hid (fun (j : Nat) (hj : j < 8) => addH_at h v hj)
      have HA := Lib.hid hA
      have HAL := Lib.hid hAl
      have HVO := Lib.hid hvo
      have Z2' := Lib.hid z2
      have z0' : wr.heap[w.heap.size]? = some (.cells ((A.take 0 ++ h.words.drop 0).map wV).toArray 133 (0, 0)) := z0
      obtain ⟨w6, rfl⟩ : ∃ w6 : World, w6 = wr := ⟨_, rfl⟩
      rw [show ((64 : Nat) : Int) = 64 from rfl]
      clear hA hAl hvo z0 z2 hk h1 hbr Z0 Z2 ZK HSL HS32 HV
      go_wp2
      go_loopw [107] (fun i wr => ∃ k : Nat, k ≤ 8 ∧ i = .int .i64 k ∧ wr.heap[w.heap.size]? = some (.cells ((A.take k ++ h.words.drop k).map wV).toArray 133 (0, 0)) ∧ wr.heap[w.heap.size + 1 + 1]? = some (.cells (Array.replicate 8 (.int .u32 0)) 133 (0, 0)) ∧ Below w.heap.size w wr) (fun i _ => 8 - (intOf i).toNat)
      case atStart => exact ⟨0, Nat.zero_le _, rfl, z0', Z2'.out, hB⟩
      case round =>
        obtain ⟨k, hk, rfl, hzr, hz2, hBr⟩ := hrel
        by_cases h1 : k < 8
        · have h1' : (k : Int) < 8 := by omega
          have hix : ∀ W : World, (Instr.index 132 (.agg #[.int .u32 (v.a : Nat), .int .u32 (v.b : Nat), .int .u32 (v.c : Nat), .int .u32 (v.d : Nat), .int .u32 (v.e : Nat), .int .u32 (v.f : Nat), .int .u32 (v.g : Nat), .int .u32 (v.h : Nat)]) (.int .i64 k)).run Tryz.prog W = .ok (.int .u32 ((v.words[k]'h1 : Nat) : Int)) W :=
            run_index_agg 132 84 8 k (v.words.map wV).toArray _ _ Tryz.underlying132 Tryz.underlying84 rfl (by kernel_rfl) h1 (map_at (f := wV) (l := v.words) h1)
          have hkl : k < h.words.length := h1
          have hc := arr_cell hzr (v := wV h.words[k]) (by rw [List.getElem?_toArray, List.getElem?_map, mix_at hkl HAL.out]; rfl)
          unfold wV at hc
          have hs := is_some hc
          have hf := arr_frozen (i := k) hzr
          have hkA : k < A.length := by rw [HAL.out]; exact h1
          have e1 : A[k] = (h.words[k] + v.words[k]'h1) % 4294967296 := by
            have := HAT.out k h1
            simp only [HA.out] at this
            exact this
          have HAS := Lib.hid (arr_set (i := k) (x := A[k]) hzr hBr (Nat.le_refl _))
          rw [mix_set hkA HAL.out] at HAS
          have hxw := hh.words.at hkl
          have hyw := HVO.out.words.at (i := k) h1
          have HEQ : Hid (Value.int IntKind.u32 (((h.words[k] : Nat) + ((v.words[k]'h1 : Nat) : Int)) % 4294967296) = wV A[k]) := Lib.hid (by
            rw [e1]
            exact congrArg (Value.int IntKind.u32) (by omega))
          have HZ2 := Lib.hid ((heap_setCell_other wr ⟨w.heap.size, k, none⟩ (w.heap.size + 1 + 1) (wV A[k]) (by simp only; omega)).trans hz2)
          have hk8 : k < 8 := h1
          clear e1 hzr hz2 hBr
          generalize h.words[k] = x at *
          generalize v.words[k]'hk8 = y at *
          generalize A[k] = s at *
          clear hkl hkA
          go_wp2
          go_roundw
          case rel =>
            rw [HEQ.out]
            exact ⟨k + 1, by omega, by go_num, HAS.out.1, HZ2.out, HAS.out.2⟩
          case measure => simp [intOf]; omega
        · obtain rfl : k = 8 := by omega
          have hA8 : A.take 8 ++ h.words.drop 8 = (blockH h b).words := by
            rw [HBH.out, HA.out, List.take_of_length_le (by rw [HAL.out]; exact Nat.le_refl _)]
            exact List.append_nil _
          rw [hA8] at hzr
          clear hA8 HBH
          obtain ⟨R, hR⟩ : ∃ R, blockH h b = R := ⟨_, rfl⟩
          rw [hR] at hzr
          have HR := Lib.hid hR
          clear hR
          have hone := one_map (f := wV) (fun _ => rfl) R.words
          have hsz : (Tryz.prog.info? 133).map (·.size) = some ((R.words.map wV).toArray).size := by kernel_rfl
          go_upto_region 15 with fail
          apply wp_region_lit
          refine wpList_load_row rfl 133 _ rfl w.heap.size rfl 133 _ _ _ hzr Tryz.underlying133 rfl hsz ?_
          refine wpList_store_row rfl 133 _ _ rfl (w.heap.size + 1 + 1) (R.words.map wV).toArray rfl (by as_aux_lemma => kernel_rfl) 133 _ hz2 hsz rfl hone ?_
          apply wpList_nil
          generalize hw2 : wr.setRow _ _ = w7
          have hz3 : w7.heap[w.heap.size + 1 + 1]? = some (.cells (R.words.map wV).toArray 133 (0, 0)) := by
            rw [← hw2]
            exact setRow_heap wr _ _ _ _ _ hz2
          have hb3 : Below w.heap.size w w7 := by
            rw [← hw2]
            exact below_setRow hBr (by omega) _
          clear hw2
          rename_i hK
          refine hK _ _ ?_
          apply wp_ret
          exact bodyPost_ret (v := .agg (R.words.map wV).toArray) (results_cell_row rfl _ _ (w.heap.size + 1 + 1) 133 _ _ _ (by as_aux_lemma => kernel_rfl) hz3 Tryz.underlying133 rfl hsz) rfl ⟨by rw [HR.out], hb3⟩
end Go.Proofs.YtffdcnhpjgpcdaaGreatDoor

namespace Go.Proofs.YtffdcnhpjgpcdaaGreatDoor
open Go.RowKit

/-- a feeder's cells. -/
def feedC (v : H8) (n : Nat) (part : List UInt8) : List Value := v.words.map wV ++ (.int .u64 n :: part.map bV)
theorem feedC_len (v : H8) (n : Nat) (part : List UInt8) : (feedC v n part).length = 9 + part.length := by simp [feedC, H8.words]; omega

set_option maxHeartbeats 4000000 in
set_option maxRecDepth 100000 in
theorem take_walk (v : H8) (hv : v.ok) (n : Nat) (part : List UInt8) (hp : part.length = 64) (g : Nat) (w : World) (hg : w.heap[g]? = some (.cells (feedC v n part).toArray 139 (0, 0))) :
    Calls Tryz.prog 99 #[.pointer (some ⟨g, 0, none⟩), .agg (part.map bV).toArray] w fun e w' => e = .returned (.tuple #[]) ∧ w'.heap[g]? = some (.cells (feedC (blockH v part) n part).toArray 139 (0, 0)) ∧ Gro g w w' := by
  have hlt := heap_lt hg
  obtain ⟨w1, hw1, hb1, hz⟩ : ∃ w1, w1 = w.alloc (.cells (part.map bV).toArray 137) ∧ Below w.heap.size w w1 ∧ w1.heap[w.heap.size]? = some (.cells (part.map bV).toArray 137 (0, 0)) :=
    ⟨_, rfl, (Below.refl _ _).alloc (Nat.le_refl _) _, heap_alloc_new _ _⟩
  have hg1 := (hb1.block g hlt).trans hg
  have CB := fun W => block_walk v hv part hp W
  have c0 := fun i u (h : (v.words.map wV)[i]? = some u) => LaterOf.cell (arr_cell hg1 (i := i) (v := u) (by
    have hi : i < (v.words.map wV).length := (List.getElem?_eq_some_iff.1 h).1
    rw [List.getElem?_toArray, feedC, List.getElem?_append_left hi]; exact h))
  have hl1 : ∀ p : LaterOf w1, (loadVar 133 ⟨g, 0, none⟩).run Tryz.prog p.world = .ok (.agg (v.words.map wV).toArray) p.world := fun p =>
    run_load_part p.world g 0 _ _ _ (fun j u h => by rw [Nat.zero_add]; exact c0 j u h p) Tryz.underlying133 rfl (by kernel_rfl)
  have hl2 : ∀ p : LaterOf w1, (loadVar 137 ⟨w.heap.size, 0, none⟩).run Tryz.prog p.world = .ok (.agg (part.map bV).toArray) p.world := fun p =>
    run_load_part p.world _ 0 _ _ _ (fun j u h => by rw [Nat.zero_add]; exact LaterOf.cell (arr_cell hz (by simpa using h)) p) Tryz.underlying137 rfl (by simp only [List.length_map, hp]; kernel_rfl)
  have HZ := Lib.hid hz
  have HG1 := Lib.hid hg1
  clear c0 hz hg1 hg
  go_enter Tryz.func99, Tryz.ntmps99
  go_upto_region 1 with fail
  rw [← hw1]
  clear hw1
  (refine wp_tail_quick 9 1 rfl (by kernel_rfl) (by kernel_rfl) (by kernel_rfl) (by kernel_rfl) ?_; simp only [List.take_succ_cons, List.take_zero]; (repeat (first | go_big_quiet_step ((go_at_call 106; exact LaterOf.call _ (CB _))) | (first | (refine wpQuiet_load rfl 133 _ rfl ⟨g, 0, none⟩ rfl _ (fun _ hp => by obtain ⟨p, hp2⟩ := hp; subst hp2; exact hl1 p) ?_) | (refine wpQuiet_load rfl 137 _ rfl ⟨w.heap.size, 0, none⟩ rfl _ (fun _ hp => by obtain ⟨p, hp2⟩ := hp; subst hp2; exact hl2 p) ?_); go_simp))); refine wpQuiet_nil ?_; first | (intro _ hw1; obtain ⟨lw, hw2⟩ := hw1; subst hw2) | intro lw)
  have hg2 := (lw.below.block g (heap_lt HG1.out)).trans HG1.out
  have hst := run_store_head (P := Tryz.prog) lw.world g 139 (feedC v n part) ((blockH v part).words.map wV) hg2 (by rw [feedC_len]; simp only [List.length_map, H8.words, List.length_cons, List.length_nil]; omega) (fun x hx => by
    obtain ⟨y, -, rfl⟩ := List.mem_map.1 hx
    rfl)
  have hcs : (blockH v part).words.map wV ++ (feedC v n part).drop ((blockH v part).words.map wV).length = feedC (blockH v part) n part := rfl
  rw [hcs] at hst
  have h8 : (blockH v part).words.length = 8 := rfl
  have HG3 := Lib.hid (setRow_heap lw.world g _ (feedC (blockH v part) n part).toArray _ _ hg2)
  have HGR : Hid (Gro g w (lw.world.setRow g (feedC (blockH v part) n part).toArray)) := Lib.hid (by
    have h1 := below_chain hb1 lw.below hb1.size
    exact World.grownBy.trans (gro_of h1) ⟨rfl, rfl, rfl, by simp, fun k hk hne => setRow_other _ _ _ _ (fun e => hne (by rw [e]))⟩)
  clear hcs hg2 hl1 hl2 CB
  (refine wpAny_ready (rs := [9]) (by kernel_rfl) (by simp) ?_; refine AllReady.cons rfl (fun K hK => ?_) AllReady.nil; go_simp; refine hK _ _ ?_; clear hK K)
  refine wpAny_done (by kernel_rfl) ?_ _
  go_end0
  exact ⟨rfl, HG3.out, HGR.out⟩

/-- the feeder at block g had the bytes xs. -/
def IsFeed (w : World) (g : Nat) (xs : List UInt8) : Prop :=
  ∃ part : List UInt8, part.length = 64 ∧ part.take (xs.length % 64) = xs.drop (64 * (xs.length / 64)) ∧ w.heap[g]? = some (.cells (feedC (feedH xs) xs.length part).toArray 139 (0, 0))

theorem feedC_part (v : H8) (n : Nat) (part : List UInt8) {j : Nat} (h : j < part.length) : (feedC v n part)[9 + j]? = some (bV part[j]) := by
  rw [feedC, List.getElem?_append_right (by simp [H8.words]; omega), show 9 + j - (v.words.map wV).length = j + 1 by simp [H8.words]; omega, List.getElem?_cons_succ, List.getElem?_map, List.getElem?_eq_getElem h]
  rfl
theorem feedC_set (v : H8) (n : Nat) (part : List UInt8) (j : Nat) (c : UInt8) : (feedC v n part).set (9 + j) (bV c) = feedC v n (part.set j c) := by
  rw [feedC, List.set_append_right _ _ (by simp [H8.words]; omega), show 9 + j - (v.words.map wV).length = j + 1 by simp [H8.words]; omega, List.set_cons_succ, ← List.map_set]
  rfl
theorem feedC_size (v : H8) (n m : Nat) (part : List UInt8) : (feedC v n part).set 8 (.int .u64 m) = feedC v m part := rfl

theorem tail_snoc {xs part : List UInt8} {c : UInt8} (hp : part.length = 64) (ht : part.take (xs.length % 64) = xs.drop (64 * (xs.length / 64))) (hn : ¬ xs.length % 64 = 63) :
    (part.set (xs.length % 64) c).take ((xs ++ [c]).length % 64) = (xs ++ [c]).drop (64 * ((xs ++ [c]).length / 64)) := by
  rw [List.length_append, List.length_singleton, show (xs.length + 1) % 64 = xs.length % 64 + 1 by omega, show (xs.length + 1) / 64 = xs.length / 64 by omega, List.drop_append_of_le_length (by omega), ← ht, List.take_succ_eq_append_getElem (by rw [List.length_set]; omega), List.getElem_set_self, List.take_set_of_le (Nat.le_refl _)]
theorem full_snoc {xs part : List UInt8} {c : UInt8} (hp : part.length = 64) (ht : part.take (xs.length % 64) = xs.drop (64 * (xs.length / 64))) (hn : xs.length % 64 = 63) :
    part.set (xs.length % 64) c = xs.drop (64 * (xs.length / 64)) ++ [c] := by
  rw [← ht, hn]
  have h2 : (part.set 63 c).length = 64 := by rw [List.length_set, hp]
  rw [← List.take_of_length_le (Nat.le_of_eq h2), show 64 = 63 + 1 from rfl, List.take_succ_eq_append_getElem (by omega), List.getElem_set_self, List.take_set_of_le (Nat.le_refl _)]
theorem feed_tail {w : World} {g : Nat} {ys part : List UInt8} {c : UInt8} (hp : part.length = 64) (ht : part.take (ys.length % 64) = ys.drop (64 * (ys.length / 64))) (hn : ¬ ys.length % 64 = 63)
    (h : w.heap[g]? = some (.cells (feedC (feedH ys) (ys.length + 1) (part.set (ys.length % 64) c)).toArray 139 (0, 0))) : IsFeed w g (ys ++ [c]) := by
  refine ⟨part.set (ys.length % 64) c, by rw [List.length_set, hp], tail_snoc hp ht hn, ?_⟩
  rw [feedH_snoc, if_neg hn, List.length_append, List.length_singleton]
  exact h
theorem feed_full {w : World} {g : Nat} {ys part : List UInt8} {c : UInt8} (hp : part.length = 64) (ht : part.take (ys.length % 64) = ys.drop (64 * (ys.length / 64))) (hn : ys.length % 64 = 63)
    (h : w.heap[g]? = some (.cells (feedC (blockH (feedH ys) (part.set (ys.length % 64) c)) (ys.length + 1) (part.set (ys.length % 64) c)).toArray 139 (0, 0))) : IsFeed w g (ys ++ [c]) := by
  refine ⟨part.set (ys.length % 64) c, by rw [List.length_set, hp], ?_, ?_⟩
  · rw [List.length_append, List.length_singleton, show (ys.length + 1) % 64 = 0 by omega, List.take_zero, List.drop_eq_nil_of_le (by rw [List.length_append, List.length_singleton]; omega)]
  · rw [feedH_snoc, if_pos hn, List.length_append, List.length_singleton, ← full_snoc hp ht hn]
    exact h

set_option maxHeartbeats 4000000 in
set_option maxRecDepth 100000 in
theorem feed_walk (g : Nat) (xs s : List UInt8) (w : World) (h : IsFeed w g xs) (hs : xs.length + s.length ≤ 100000000) :
    Calls Tryz.prog 91 #[.pointer (some ⟨g, 0, none⟩), S s] w fun e w' => e = .returned (.tuple #[]) ∧ IsFeed w' g (xs ++ s) ∧ Gro g w w' := by
  have H := Lib.hid h
  clear h
  go_enter Tryz.func91, Tryz.ntmps91
  go_wp2
  go_loopw [8, 4, 5] (fun i _ _ wr => ∃ k : Nat, k ≤ s.length ∧ i = .int .i64 k ∧ IsFeed wr g (xs ++ s.take k) ∧ Gro g w wr) (fun i _ _ _ => s.length - (intOf i).toNat)
  case atStart => exact ⟨0, Nat.zero_le _, rfl, by rw [List.take_zero, List.append_nil]; exact H.out, gro_of (Below.refl _ _)⟩
  case round =>
    obtain ⟨k, hk, rfl, hf, hG⟩ := hrel
    by_cases h1 : k < s.length
    · have h1' : (k : Int) < (s.length : Int) := by omega
      have HT := Lib.hid (show (xs ++ s.take k) ++ [s[k]] = xs ++ s.take (k + 1) by rw [List.take_succ_eq_append_getElem h1, List.append_assoc])
      have hyl : (xs ++ s.take k).length ≤ 100000000 := by rw [List.length_append, List.length_take]; omega
      generalize xs ++ s.take k = ys at *
      obtain ⟨part, hp, htl, hz⟩ := hf
      have HTL := Lib.hid htl
      have HP := Lib.hid hp
      have HFT := Lib.hid (fun (W : World) h => feed_tail (w := W) (g := g) (c := s[k]) hp htl h)
      have HFF := Lib.hid (fun (W : World) h => feed_full (w := W) (g := g) (c := s[k]) hp htl h)
      have hvo := feedH_ok ys
      generalize feedH ys = v at *
      obtain ⟨n, hn⟩ : ∃ n, ys.length = n := ⟨_, rfl⟩
      rw [hn] at hyl htl hz HTL HFT HFF
      obtain ⟨m, hm⟩ : ∃ m, n % 64 = m := ⟨_, rfl⟩
      have hm64 : m < 64 := by omega
      rw [hm] at htl HTL HFT HFF
      have hmi : (n : Int) % 64 = (m : Int) := by omega
      have hm64' : (m : Int) < 64 := by omega
      have e8 := arr_cell hz (i := 8) (v := .int .u64 n) rfl
      have hmp : m < part.length := by omega
      have e9 := arr_cell hz (i := 9 + m) (by rw [List.getElem?_toArray]; exact feedC_part v n part hmp)
      unfold bV at e9
      generalize part[m] = u at e9
      have q9 := LaterOf.cell e9
      have hbk : ({ data := s.toArray } : ByteArray)[k]'(by simpa [ByteArray.size] using h1) = s[k] := rfl
      generalize s[k] = c at *
      have HZ := Lib.hid hz
      have HG := Lib.hid hG
      clear hz hG hm hp htl hn hmp
      go_upto_region 4 with fail
      (refine wp_tail_quick 8 1 rfl (by kernel_rfl) (by kernel_rfl) (by kernel_rfl) (by kernel_rfl) ?_; simp only [List.take_succ_cons, List.take_zero]; (repeat (go_big_quiet_step (fail))); refine wpQuiet_nil ?_; intro _ hw1; obtain ⟨lw, hw2⟩ := hw1; subst hw2)
      have hz2 := (lw.below.block g (heap_lt HZ.out)).trans HZ.out
      have c9 := q9 lw
      have s9 := is_some c9
      have f9 := arr_frozen (i := 9 + m) hz2
      have HG2 := Lib.hid (gro_chain HG.out lw.below)
      clear e8 e9 q9
      (refine wpAny_ready (rs := [8]) (by kernel_rfl) (by simp) ?_; refine AllReady.cons rfl (fun K hK => ?_) AllReady.nil; go_simp; refine hK _ _ ?_; clear hK K)
      refine wpAny_done (by kernel_rfl) ?_ _
      obtain ⟨w3, hw3⟩ : ∃ w3, w3 = lw.world.setCell ⟨g, 9 + m, none⟩ (.int .u8 ((c.toNat : Nat) : Int)) := ⟨_, rfl⟩
      rw [← hw3]
      have hz3 : w3.heap[g]? = some (.cells (feedC v n (part.set m c)).toArray 139 (0, 0)) := by
        rw [hw3, heap_setCell_same lw.world g _ _ _ _ hz2, ← feedC_set]
        simp [bV]
      have HG3 : Hid (Gro g w w3) := Lib.hid (by rw [hw3]; exact gro_set HG2.out _ _)
      have d8 := arr_cell hz3 (i := 8) (v := .int .u64 n) rfl
      have r8 := is_some d8
      have t8 := arr_frozen (i := 8) hz3
      have HZ3 := Lib.hid hz3
      clear hw3 hz3 hz2 c9 s9 f9 HG2 HG HZ
      obtain ⟨w4, hw4⟩ : ∃ w4, w4 = w3.setCell ⟨g, 8, none⟩ (.int .u64 ((n : Int) + 1)) := ⟨_, rfl⟩
      have HZ4 : Hid (w4.heap[g]? = some (.cells (feedC v (n + 1) (part.set m c)).toArray 139 (0, 0))) := Lib.hid (by
        rw [hw4, heap_setCell_same w3 g _ _ _ _ HZ3.out, ← feedC_size v n (n + 1)]
        simp)
      have HG4 : Hid (Gro g w w4) := Lib.hid (by rw [hw4]; exact gro_set HG3.out _ _)
      by_cases h63 : m = 63
      · have h63' : ((m : Int) == 63) = true := by rw [beq_iff_eq]; omega
        have HF := Lib.hid (fun W => HFF.out W h63)
        have CT := take_walk v hvo (n + 1) (part.set m c) (by rw [List.length_set]; exact HP.out)
        have hpl : (part.set m c).length = 64 := by rw [List.length_set]; exact HP.out
        generalize part.set m c = part' at *
        have hl : ∀ p : LaterOf w4, (loadVar 137 ⟨g, 9, none⟩).run Tryz.prog p.world = .ok (.agg (part'.map bV).toArray) p.world := fun p =>
          run_load_part p.world g 9 _ _ _ (fun j u h => LaterOf.cell (arr_cell HZ4.out (i := 9 + j) (by
            have hj : j < (part'.map bV).length := (List.getElem?_eq_some_iff.1 h).1
            rw [List.length_map] at hj
            rw [List.getElem?_toArray, feedC_part _ _ _ hj, ← h, List.getElem?_map, List.getElem?_eq_getElem hj]; rfl)) p) Tryz.underlying137 rfl (by simp only [List.length_map, hpl]; kernel_rfl)
        clear h63 HFF HFT
        go_upto_region 7 with fail
        rw [← hw4]
        clear hw4
        (refine wp_tail_quick 7 1 rfl (by kernel_rfl) (by kernel_rfl) (by kernel_rfl) (by kernel_rfl) ?_; simp only [List.take_succ_cons, List.take_zero]; (repeat (first | go_big_quiet_step (fail) | ((refine wpQuiet_load rfl 137 _ rfl ⟨g, 9, none⟩ rfl _ (fun _ hp => by obtain ⟨p, hp2⟩ := hp; subst hp2; exact hl p) ?_); go_simp))); refine wpQuiet_nil ?_; first | (intro _ hw1; obtain ⟨lw, hw2⟩ := hw1; subst hw2) | intro lw)
        have CT5 := CT g lw.world ((lw.below.block g (heap_lt HZ4.out)).trans HZ4.out)
        have HG5 := Lib.hid (gro_chain HG4.out lw.below)
        clear CT hl d8 r8 t8
        refine wpAny_ready (rs := [7]) (by kernel_rfl) (by simp) ?_
        refine AllReady.cons rfl (fun K hK => ?_) AllReady.nil
        go_simp
        refine CT5.mono ?_
        rintro e w6 ⟨rfl, hz6, hg6⟩
        have HF6 := Lib.hid (HF.out w6 hz6)
        have HG6 := Lib.hid (World.grownBy.trans HG5.out hg6)
        clear hz6 hg6 CT5
        refine hK _ _ ?_
        clear hK K
        refine wpAny_done (by kernel_rfl) ?_ _
        go_wp2
        go_roundw
        case rel => exact ⟨k + 1, by omega, by go_num, by rw [← HT.out]; exact HF6.out, HG6.out⟩
        case measure => simp [intOf]; omega
      · have h63' : ((m : Int) == 63) = false := by rw [beq_eq_false_iff_ne]; omega
        have HF := Lib.hid (HFT.out w4 h63 HZ4.out)
        clear HFF HFT
        go_wp2
        rw [← hw4]
        go_roundw
        case rel => exact ⟨k + 1, by omega, by go_num, by rw [← HT.out]; exact HF.out, HG4.out⟩
        case measure => simp [intOf]; omega
    · have h1' : ¬ (k : Int) < (s.length : Int) := by omega
      obtain rfl : k = s.length := by omega
      rw [List.take_of_length_le (Nat.le_refl _)] at hf
      have HF := Lib.hid hf
      have HG := Lib.hid hG
      clear hf hG
      go_wp2
      go_end0
      exact ⟨rfl, HF.out, HG.out⟩
end Go.Proofs.YtffdcnhpjgpcdaaGreatDoor

namespace Go.Proofs.YtffdcnhpjgpcdaaGreatDoor
open Go.RowKit

set_option maxHeartbeats 2000000 in
set_option maxRecDepth 100000 in
theorem reset_walk (B b : Nat) (p v : Value) (w : World) (hB : B ≤ b) (h : w.heap[b]? = some (.cells #[p, v] 114 (0, 0))) :
    Calls Tryz.prog 100 #[.pointer (some ⟨b, 0, none⟩)] w fun e w' => e = .returned (.tuple #[]) ∧ IsBld B b [] w' ∧ Below B w w' := by
  have c0 := arr_cell h (i := 0) (v := p) rfl
  have c1 := arr_cell h (i := 1) (v := v) rfl
  have s0 := is_some c0
  have s1 := is_some c1
  have f0 := arr_frozen (i := 0) h
  have f1 := arr_frozen (i := 1) h
  have H := Lib.hid h
  clear h
  go_enter Tryz.func100, Tryz.ntmps100
  go_wp2
  go_end0
  refine ⟨rfl, .inl ⟨hB, .slice none 0 0, ?_, World.ownsRow_nil _ _ _ _, by simp [Value.ownBlock]⟩, ?_⟩
  · rw [heap_setCell_same _ b 1 #[.pointer none, v] _ _ (by rw [heap_setCell_same w b 0 _ _ _ H.out]; rfl)]
    rfl
  · exact ((Below.refl B w).setCell (p := ⟨b, 0, none⟩) hB _).setCell (p := ⟨b, 1, none⟩) hB _

def sizeAt (w : World) (g : Nat) : Nat := (intOf ((w.cell? ⟨g, 8, none⟩).getD undef)).toNat
theorem IsFeed.size {w : World} {g : Nat} {xs : List UInt8} (h : IsFeed w g xs) : w.cell? ⟨g, 8, none⟩ = some (.int .u64 xs.length) := by
  obtain ⟨part, -, -, hz⟩ := h
  exact arr_cell hz (i := 8) rfl
theorem IsFeed.sizeAt {w : World} {g : Nat} {xs : List UInt8} (h : IsFeed w g xs) : sizeAt w g = xs.length := by
  unfold Proofs.YtffdcnhpjgpcdaaGreatDoor.sizeAt
  rw [h.size]
  simp [intOf]
theorem IsFeed.below {w w' : World} {g : Nat} {xs : List UInt8} (h : IsFeed w g xs) (hb : Below w.heap.size w w') : IsFeed w' g xs := by
  obtain ⟨part, h1, h2, hz⟩ := h
  exact ⟨part, h1, h2, (hb.block g (heap_lt hz)).trans hz⟩
theorem IsFeed.on {w w' : World} {g B : Nat} {xs : List UInt8} (h : IsFeed w g xs) (hb : Below B w w') (hg : g < B) : IsFeed w' g xs := by
  obtain ⟨part, h1, h2, hz⟩ := h
  exact ⟨part, h1, h2, (hb.block g hg).trans hz⟩
theorem gro_over {w w1 w2 : World} {g B : Nat} (h : Gro g w w1) (hb : Below B w1 w2) (hB : w.heap.size ≤ B) : Gro g w w2 :=
  ⟨hb.os.trans h.os, hb.tape.trans h.tape, hb.output.trans h.output, Nat.le_trans h.size hb.size, fun k hk hne => (hb.block k (Nat.lt_of_lt_of_le hk hB)).trans (h.block k hk hne)⟩
theorem IsFeed.lt {w : World} {g : Nat} {xs : List UInt8} (h : IsFeed w g xs) : g < w.heap.size := by
  obtain ⟨part, -, -, hz⟩ := h
  exact heap_lt hz
theorem IsFeed.words {w : World} {g : Nat} {xs : List UInt8} (h : IsFeed w g xs) {j : Nat} {u : Value} (hu : ((feedH xs).words.map wV)[j]? = some u) : w.cell? ⟨g, j, none⟩ = some u := by
  obtain ⟨part, -, -, hz⟩ := h
  refine arr_cell hz (i := j) ?_
  have hi : j < ((feedH xs).words.map wV).length := (List.getElem?_eq_some_iff.1 hu).1
  rw [List.getElem?_toArray, feedC, List.getElem?_append_left hi]
  exact hu

theorem conv_bytes (W : World) (g c : Nat) (l : List UInt8) (h : ∀ j x, l[j]? = some x → W.cell? ⟨g, j, none⟩ = some (.int .u8 ((x.toNat : Nat) : Int))) : (convert 90 9 (.slice (some ⟨g, 0, none⟩) l.length c)).run Tryz.prog W = .ok (S l) W := by
  refine run_convert_bytes_back W _ _ 5 _ _ l Tryz.underlying90 Tryz.underlying5 Tryz.underlying9 fun j hj => ?_
  have := h j l[j] (by simp [hj])
  rw [show ((⟨g, 0, none⟩ : Addr).add j) = ⟨g, j, none⟩ by unfold Addr.add; split <;> simp_all]
  exact this

theorem bld_over {B b : Nat} {l : List UInt8} {w w' : World} (h : IsBld B b l w) (hb : Below w.heap.size w w') : IsBld B b l w' := by
  rcases h with ⟨hB, v, hbk, hown, hne⟩ | ⟨hB, v, hbk, hown, hne⟩
  · exact .inl ⟨hB, v, (hb.block b (heap_lt hbk)).trans hbk, own_on hown hb, hne⟩
  · exact .inr ⟨hB, v, (hb.block b (heap_lt hbk)).trans hbk, own_on hown hb, hne⟩

theorem conv_word (x : Nat) (w : World) : (convert 90 9 (.slice (some ⟨w.heap.size, 0, none⟩) 4 4)).run Tryz.prog (w.alloc (.cells #[.int .u8 ((x : Int) / 16777216 % 256), .int .u8 ((x : Int) / 65536 % 256), .int .u8 ((x : Int) / 256 % 256), .int .u8 ((x : Int) % 256)] 5)) = .ok (S (wordBytes x)) (w.alloc (.cells #[.int .u8 ((x : Int) / 16777216 % 256), .int .u8 ((x : Int) / 65536 % 256), .int .u8 ((x : Int) / 256 % 256), .int .u8 ((x : Int) % 256)] 5)) := by
  refine conv_bytes _ w.heap.size 4 (wordBytes x) fun j y hj => ?_
  refine cell_new _ _ _ _ ?_
  match j, hj with
  | 0, hj => obtain rfl := Option.some.inj hj; rw [ofNat_nat]; rfl
  | 1, hj => obtain rfl := Option.some.inj hj; rw [ofNat_nat]; rfl
  | 2, hj => obtain rfl := Option.some.inj hj; rw [ofNat_nat]; rfl
  | 3, hj => obtain rfl := Option.some.inj hj; rw [ofNat_nat]; rfl

set_option maxHeartbeats 8000000 in
set_option maxRecDepth 100000 in
theorem psum_walk (g : Nat) (xs : List UInt8) (w : World) (h : IsFeed w g xs) (hx : xs.length ≤ 1100000) :
    Calls Tryz.prog 92 #[.pointer (some ⟨g, 0, none⟩)] w fun e w' => e = .returned (S (shaF xs)) ∧ Gro g w w' := by
  have e8 := h.size
  have CF := feed_walk g xs [128] w h (by simp; omega)
  have HL := Lib.hid h.lt
  clear h
  go_enter Tryz.func92, Tryz.ntmps92
  go_wp2_with fail
  refine CF.mono ?_
  rintro e w1 ⟨rfl, hf1, hG1⟩
  clear CF e8
  have HF1 := Lib.hid hf1
  have HG1 := Lib.hid hG1
  clear hf1 hG1
  go_wp2
  go_loopw [22] (fun _ wr => ∃ j : Nat, IsFeed wr g (xs ++ [128] ++ List.replicate j 0) ∧ zerosN (xs.length + 1) = zerosN (xs.length + 1 + j) + j ∧ Gro g w wr) (fun _ wr => zerosN (sizeAt wr g))
  case atStart => exact ⟨0, by simpa using HF1.out, rfl, HG1.out⟩
  case round =>
    obtain ⟨j, hf, hj, hG⟩ := hrel
    have hzl := zerosN_lt (xs.length + 1)
    have e8 := hf.size
    have hlen : (xs ++ [128] ++ List.replicate j 0).length = xs.length + 1 + j := by simp only [List.length_append, List.length_replicate, List.length_singleton]
    rw [hlen] at e8
    have HSZ := Lib.hid (hf.sizeAt.trans hlen)
    have CF := feed_walk g _ [0] wr hf (by rw [hlen]; simp; omega)
    have HF := Lib.hid hf
    have HJ := Lib.hid hj
    have HG := Lib.hid hG
    have hjl : j < 64 := by omega
    clear hf hG hlen hj
    obtain ⟨m, hm⟩ : ∃ m, xs.length + 1 + j = m := ⟨_, rfl⟩
    rw [hm] at e8 HSZ HJ
    have hml : m ≤ 2000000 := by omega
    by_cases h56 : m % 64 = 56
    · have h56' : ((m : Int) % 64 == 56) = true := by rw [beq_iff_eq]; omega
      have h56n : (!((m : Int) % 64 == 56)) = false := by rw [h56']; rfl
      have h56m : ((m : Int) % 64 != 56) = false := by rw [bne, h56']; rfl
      have hz0 := zerosN_zero h56
      have HFP : Hid (IsFeed wr g (padZ xs)) := Lib.hid (by
        have := HF.out
        have hj2 := HJ.out
        unfold padZ
        rw [hj2, hz0, Nat.zero_add]
        exact this)
      clear HF HJ hz0 h56 CF
      obtain ⟨wo, rfl⟩ : ∃ wo : World, wo = wr := ⟨_, rfl⟩
      obtain ⟨w2, hw2, hb2, hbl⟩ : ∃ w2, w2 = wo.alloc (.cells #[.pointer none, .slice none 0 0] 114) ∧ Below wo.heap.size wo w2 ∧ IsBld wo.heap.size wo.heap.size [] w2 :=
        ⟨_, rfl, (Below.refl _ _).alloc (Nat.le_refl _) _, Lib.fresh_isBuilder _ _ _⟩
      have HB2 := Lib.hid hb2
      have HBL := Lib.hid hbl
      clear hb2 hbl
      go_upto_region 6 with fail
      rw [← hw2]
      clear hw2
      go_wp2
      go_loopw [5] (fun k w' => ∃ j : Nat, j ≤ 8 ∧ k = .int .i64 (56 - 8 * (j : Int)) ∧ IsBld wo.heap.size wo.heap.size ((bytes8 (xs.length * 8)).take j) w' ∧ Below wo.heap.size wo w') (fun k _ => (intOf k + 8).toNat)
      case atStart => exact ⟨0, Nat.zero_le _, rfl, HBL.out, HB2.out⟩
      case round =>
        obtain ⟨i, hi, rfl, hbl, hbw⟩ := hrel
        by_cases h1 : i < 8
        · have h1' : 0 ≤ 56 - 8 * (i : Int) := by omega
          have h2' : 56 - 8 * (i : Int) ≤ 64 := by omega
          have h4' : 8 * (i : Int) ≤ 56 := by omega
          have h3' : (56 - 8 * (i : Int)).toNat = 56 - 8 * i := by omega
          have hi8 : i < (bytes8 (xs.length * 8)).length := h1
          have HT := Lib.hid (List.take_succ_eq_append_getElem hi8)
          obtain ⟨c, hc⟩ : ∃ c, (bytes8 (xs.length * 8))[i] = c := ⟨_, rfl⟩
          have hcn := bytes8_at (xs.length * 8) i hi8
          rw [hc] at HT hcn
          have HC := Lib.hid hcn
          clear hc hi8 hcn
          have CW := fun cv (hcv : cv = ((c.toNat : Nat) : Int)) => wbyte_walk wo.heap.size wo.heap.size _ c cv wr hcv hbl (by rw [List.length_take]; omega) hbw.size
          have HBW := Lib.hid hbw
          clear hbl hbw
          go_wp2_with fail
          refine (CW _ (by rw [HC.out, Int.natCast_emod, Int.natCast_ediv, Int.natCast_mul, Int.natCast_pow]; rfl)).mono ?_
          rintro e w3 ⟨rfl, hbl3, hb3⟩
          have HBL3 := Lib.hid hbl3
          have HB3 := Lib.hid (HBW.out.trans hb3)
          clear hbl3 hb3 CW
          go_wp2
          go_roundw
          case rel => exact ⟨i + 1, by omega, congrArg (Value.int IntKind.i64) (by omega), by rw [HT.out]; exact HBL3.out, HB3.out⟩
          case measure => simp [intOf]; omega
        · obtain rfl : i = 8 := by omega
          rw [show (bytes8 (xs.length * 8)).take 8 = bytes8 (xs.length * 8) from rfl] at hbl
          rw [show (56 - 8 * ((8 : Nat) : Int)) = -8 from rfl]
          have hgw := HFP.out.lt
          obtain ⟨w4, rfl⟩ : ∃ w4 : World, w4 = wr := ⟨_, rfl⟩
          have hfp : IsFeed w4 g (padZ xs) := HFP.out.below hbw
          have HG4 := Lib.hid (gro_chain HG.out hbw)
          have HWB := Lib.hid (HG.out.size)
          have CS := Tryz.Builder_String_any_f wo.heap.size wo.heap.size (bytes8 (xs.length * 8)) w4 (by
            rcases hbl with h | h
            · exact .inl (Lib.BuilderAtF.of h)
            · exact .inr (Lib.BuilderAtF.of h)) hbw.size
          have HBW := Lib.hid hbw
          have HFP4 := Lib.hid hfp
          have HGW := Lib.hid hgw
          clear hbl hfp hbw hgw HFP HB2 HBL HG HSZ e8 h1
          go_wp2_with fail
          refine CS.mono ?_
          rintro e w5 ⟨rfl, hbf5, hb5⟩
          have hfp5 := HFP4.out.on hb5 HGW.out
          have HG5 := Lib.hid (gro_over HG4.out hb5 HWB.out)
          have hz5 := hb5.size
          have hblk : ∃ p v, w5.heap[wo.heap.size]? = some (.cells #[p, v] 114 (0, 0)) := by
            rcases hbf5 with h | h
            · obtain ⟨-, v, hv, -⟩ := h
              exact ⟨_, v, hv⟩
            · obtain ⟨-, v, hv, -⟩ := h
              exact ⟨_, v, hv⟩
          obtain ⟨p, v, hblk⟩ := hblk
          have CF5 := feed_walk g (padZ xs) (bytes8 (xs.length * 8)) w5 hfp5 (by have := padZ_le xs; simp only [bytes8, List.length_cons, List.length_nil]; omega)
          have HBK := Lib.hid hblk
          have HS5 := Lib.hid (Nat.le_trans HBW.out.size hz5)
          clear CS hbf5 hb5 hfp5 hz5 hblk HFP4
          go_wp2_with fail
          refine CF5.mono ?_
          rintro e w6 ⟨rfl, hf6, hG6⟩
          have hblk6 : w6.heap[wo.heap.size]? = some (.cells #[p, v] 114 (0, 0)) :=
            (hG6.block wo.heap.size (heap_lt HBK.out) (fun e => by have := HGW.out; have := Option.some.inj e; omega)).trans HBK.out
          have CR := reset_walk wo.heap.size wo.heap.size p v w6 (Nat.le_refl _) hblk6
          have HF6 : Hid (IsFeed w6 g (padS xs)) := Lib.hid hf6
          have HG6 := Lib.hid (World.grownBy.trans HG5.out hG6)
          have HS6 := Lib.hid (Nat.le_trans HS5.out hG6.size)
          clear CF5 hf6 hG6 hblk6
          go_wp2_with fail
          refine CR.mono ?_
          rintro e w7 ⟨rfl, hbl7, hb7⟩
          have hf7 := HF6.out.on hb7 HGW.out
          have HG7 := Lib.hid (gro_over HG6.out hb7 HWB.out)
          have HS7 := Lib.hid (Nat.le_trans HS6.out hb7.size)
          have hl7 : (loadVar 133 ⟨g, 0, none⟩).run Tryz.prog w7 = .ok (.agg ((feedH (padS xs)).words.map wV).toArray) w7 :=
            run_load_part w7 g 0 _ _ _ (fun j u h => by rw [Nat.zero_add]; exact hf7.words h) Tryz.underlying133 rfl (by kernel_rfl)
          have HBL7 := Lib.hid hbl7
          have HSH := Lib.hid (show shaF xs = (feedH (padS xs)).words.flatMap wordBytes from rfl)
          have HOK := Lib.hid (feedH_ok (padS xs))
          generalize feedH (padS xs) = R at *
          clear CR hbl7 hb7 hf7
          go_wp2_with (refine wpList_load_at rfl 133 _ rfl ⟨g, 0, none⟩ rfl _ hl7 ?_; simp only [Act.put])
          obtain ⟨wq, rfl⟩ : ∃ wq : World, wq = w7 := ⟨_, rfl⟩
          go_loopw [43] (fun k w' => ∃ j : Nat, j ≤ 8 ∧ k = .int .i64 j ∧ IsBld wo.heap.size wo.heap.size ((R.words.take j).flatMap wordBytes) w' ∧ Gro g w w' ∧ wo.heap.size ≤ w'.heap.size) (fun k _ => 8 - (intOf k).toNat)
          case atStart => exact ⟨0, Nat.zero_le _, rfl, HBL7.out, HG7.out, HS7.out⟩
          case round =>
            obtain ⟨k, hk, rfl, hbl, hgr, hsz⟩ := hrel
            by_cases h1 : k < 8
            · have h1' : (k : Int) < 8 := by omega
              have hkl : k < R.words.length := h1
              have hix : ∀ W : World, (Instr.index 133 (.agg (R.words.map wV).toArray) (.int .i64 k)).run Tryz.prog W = .ok (.int .u32 ((R.words[k] : Nat) : Int)) W :=
                run_index_agg 133 84 8 k _ _ _ Tryz.underlying133 Tryz.underlying84 rfl (by kernel_rfl) h1 (map_at (f := wV) hkl)
              have HT := Lib.hid (flat_snoc hkl)
              have hfl : ((R.words.take k).flatMap wordBytes).length ≤ 100 := by rw [wordBytes_flat, List.length_take]; omega
              generalize R.words[k] = x at *
              clear hkl
              have hcv := conv_word x wr
              have hbl2 := bld_over hbl (Below.alloc (Below.refl wr.heap.size wr) (Nat.le_refl _) (.cells #[.int .u8 ((x : Int) / 16777216 % 256), .int .u8 ((x : Int) / 65536 % 256), .int .u8 ((x : Int) / 256 % 256), .int .u8 ((x : Int) % 256)] 5))
              have CW := wstr_walk wo.heap.size wo.heap.size _ (wordBytes x) _ hbl2 (by omega) (by simp [wordBytes]) (by simp [wordBytes]) (by simp; omega)
              have HGR := Lib.hid hgr
              have HSZ := Lib.hid hsz
              clear hbl hgr hsz
              go_wp2_with fail
              refine CW.mono ?_
              rintro e w8 ⟨⟨q, rfl⟩, hbl8, hb8⟩
              have HB8 : Hid (IsBld wo.heap.size wo.heap.size ((R.words.take (k + 1)).flatMap wordBytes) w8) := Lib.hid (by rw [HT.out]; exact hbl8)
              have HG8 := Lib.hid (gro_over (gro_over HGR.out (Below.alloc (Below.refl wr.heap.size wr) (Nat.le_refl _) _) (Nat.le_trans HWB.out HSZ.out)) hb8 HWB.out)
              have HS8 := Lib.hid (Nat.le_trans (Nat.le_trans HSZ.out (by simp)) hb8.size)
              clear hbl8 hb8 CW hbl2 hcv
              go_wp2
              go_roundw
              case rel => exact ⟨k + 1, by omega, by go_num, HB8.out, HG8.out, HS8.out⟩
              case measure => simp [intOf]; omega
            · obtain rfl : k = 8 := by omega
              rw [show R.words.take 8 = R.words from rfl] at hbl
              have CT := bstring_walk wo.heap.size wo.heap.size _ wr hbl hsz
              have HGR := Lib.hid hgr
              clear hbl hgr h1
              rw [show ((8 : Nat) : Int) = 8 from rfl]
              go_wp2_with fail
              refine CT.mono ?_
              rintro e w8 ⟨rfl, hb8⟩
              have HG8 := Lib.hid (gro_over HGR.out hb8 HWB.out)
              clear CT hb8
              go_wp2
              go_ret
              exact ⟨by rw [HSH.out]; rfl, HG8.out⟩
    · have h56' : ((m : Int) % 64 == 56) = false := by rw [beq_eq_false_iff_ne]; omega
      have h56n : (!((m : Int) % 64 == 56)) = true := by rw [h56']; rfl
      have h56m : ((m : Int) % 64 != 56) = true := by rw [bne, h56']; rfl
      have hzs := zerosN_succ h56
      have HZS := Lib.hid hzs
      have HM := Lib.hid hm
      clear h56 hzs hm
      go_wp2_with fail
      refine CF.mono ?_
      rintro e w2 ⟨rfl, hf2, hG2⟩
      have HF2 : Hid (IsFeed w2 g (xs ++ [128] ++ List.replicate (j + 1) 0)) := Lib.hid (by
        rw [List.replicate_succ', ← List.append_assoc]
        exact hf2)
      have HS2 : Hid (sizeAt w2 g = m + 1) := Lib.hid (by
        rw [hf2.sizeAt]
        simp only [List.length_append, List.length_replicate, List.length_singleton]
        have := HM.out
        omega)
      have HG2 := Lib.hid (World.grownBy.trans HG.out hG2)
      clear hf2 hG2 CF e8
      go_wp2
      go_roundw
      case rel => exact ⟨j + 1, HF2.out, by have h1 := HJ.out; have h2 := HZS.out; have h3 := HM.out; rw [h1, h2, show xs.length + 1 + (j + 1) = m + 1 by omega]; omega, HG2.out⟩
      case measure => rw [HS2.out, HSZ.out, HZS.out]; omega

set_option maxHeartbeats 8000000 in
set_option maxRecDepth 100000 in
theorem pjoin_walk (g c : Nat) (s : List UInt8) (w : World) (h : w.cell? ⟨g, 0, none⟩ = some (S s)) (hs : s.length ≤ 1100000) :
    Calls Tryz.prog 76 #[.slice (some ⟨g, 0, none⟩) 1 c] w fun e w' => e = .returned (S (shaF s)) ∧ Below w.heap.size w w' := by
  have CF := first_walk w
  have HH := Lib.hid h
  clear h
  go_enter Tryz.func76, Tryz.ntmps76
  go_wp2_with fail
  refine CF.mono ?_
  rintro e w1 ⟨rfl, hb1⟩
  clear CF
  go_upto_region 2 with fail
  generalize hw2 : World.alloc _ _ = w2
  have hz2 : w2.heap[w1.heap.size]? = some (.cells (feedC h0Sha 0 (List.replicate 64 0)).toArray 139 (0, 0)) := by
    rw [← hw2, heap_alloc_new]
    exact congrArg (fun cs => some (Obj.cells cs 139 (0, 0))) (by as_aux_lemma => kernel_rfl)
  have hb2 : Below w1.heap.size w1 w2 := by
    rw [← hw2]
    exact (Below.refl _ _).alloc (Nat.le_refl _) _
  clear hw2
  generalize Value.agg (Array.foldl _ _ _ _ _) = v8
  generalize Value.agg (List.foldl _ _ _) = v7
  have hf : IsFeed w2 w1.heap.size [] := ⟨List.replicate 64 0, by simp, by simp, hz2⟩
  have hB2 := below_chain hb1 hb2 hb1.size
  have HG := Lib.hid hb1.size
  have HF := Lib.hid hf
  have HB2 := Lib.hid hB2
  clear hf hz2 hb1 hb2 hB2
  go_wp2
  go_loopw [12] (fun i w' => ∃ j : Nat, j ≤ 1 ∧ i = .int .i64 j ∧ (j = 0 → IsFeed w' w1.heap.size []) ∧ (j = 1 → IsFeed w' w1.heap.size s) ∧ Below w.heap.size w w') (fun i _ => 1 - (intOf i).toNat)
  case atStart => exact ⟨0, Nat.zero_le _, rfl, fun _ => HF.out, fun h => by omega, HB2.out⟩
  case round =>
    obtain ⟨j, hj, rfl, h0, h1, hB⟩ := hrel
    by_cases hj0 : j = 0
    · subst hj0
      have c0 := cell_below hB HH.out
      have CF := feed_walk w1.heap.size [] s wr (h0 rfl) (by simp; omega)
      have HB := Lib.hid hB
      clear h0 h1 hB hj
      rw [show ((0 : Nat) : Int) = 0 from rfl]
      go_wp2_with fail
      refine CF.mono ?_
      rintro e w4 ⟨rfl, hf4, hg4⟩
      have HF4 := Lib.hid hf4
      have HB4 := Lib.hid (HB.out.trans (gro_below hg4 HG.out HB.out.size))
      clear CF hf4 hg4 c0
      go_wp2
      go_roundw
      case rel => exact ⟨1, Nat.le_refl _, rfl, fun h => by omega, fun _ => HF4.out, HB4.out⟩
      case measure => simp [intOf]
    · obtain rfl : j = 1 := by omega
      have CS := psum_walk w1.heap.size s wr (h1 rfl) hs
      have HB := Lib.hid hB
      clear h0 h1 hB hj hj0
      rw [show ((1 : Nat) : Int) = 1 from rfl]
      go_wp2_with fail
      refine CS.mono ?_
      rintro e w4 ⟨rfl, hg4⟩
      have HB4 := Lib.hid (HB.out.trans (gro_below hg4 HG.out HB.out.size))
      clear CS hg4
      go_wp2
      go_ret
      exact ⟨rfl, HB4.out⟩

set_option maxHeartbeats 8000000 in
set_option maxRecDepth 100000 in
/-- the program's sum of a text. -/
theorem psha_walk (s : List UInt8) (w : World) (hs : s.length ≤ 1100000) :
    Calls Tryz.prog 56 #[S s] w fun e w' => e = .returned (S (shaF s)) ∧ Below w.heap.size w w' := by
  obtain ⟨w1, hw1, hb1, hc⟩ : ∃ w1, w1 = w.alloc (.cells #[S s] 9) ∧ Below w.heap.size w w1 ∧ w1.cell? ⟨w.heap.size, 0, none⟩ = some (S s) :=
    ⟨_, rfl, (Below.refl _ _).alloc (Nat.le_refl _) _, cell_new _ _ _ _ rfl⟩
  have CJ := pjoin_walk w.heap.size 1 s w1 hc hs
  go_enter Tryz.func56, Tryz.ntmps56
  go_wp2_with fail
  rw [← hw1]
  clear hw1 hc
  refine CJ.mono ?_
  rintro e w2 ⟨rfl, hb2⟩
  have HB2 := Lib.hid (below_chain hb1 hb2 hb1.size)
  clear hb2 CJ
  go_wp2
  go_ret
  exact ⟨rfl, HB2.out⟩
end Go.Proofs.YtffdcnhpjgpcdaaGreatDoor
