/- The program's words of a block. -/
import Derived.Test.YtocommjoncchpaaGreatDoorJBuildR0
import Derived.Test.YtocommjoncchpaaGreatDoorJRSha
namespace Go.Proofs.YtocommjoncchpaaGreatDoor
open Go.RowKit

set_option maxHeartbeats 4000000 in
set_option maxRecDepth 100000 in
theorem schedule_walk (b : List UInt8) (hl : b.length = 64) (w : World) :
    Calls Tryz.prog 150 #[.agg (b.map bV).toArray] w fun e w' => e = .returned (.agg ((schedW b).map wV).toArray) ∧ Below w.heap.size w w' := by
  go_enter Tryz.func150, Tryz.ntmps150
  go_upto_region 1 with fail
  generalize hw1 : (w.alloc _).alloc _ = w1
  have hz0 : w1.heap[w.heap.size]? = some (.cells (b.map bV).toArray 128 (0, 0)) := by
    rw [← hw1]
    exact heap_alloc2_old _ _ _
  have hz1 : w1.heap[w.heap.size + 1]? = some (.cells ((begW b 0).map wV).toArray 223 (0, 0)) := by
    rw [← hw1, begW_zero]
    exact heap_alloc2_new _ _ _
  have hb : Below w.heap.size w w1 := by
    rw [← hw1]
    exact ((Below.refl _ _).alloc (Nat.le_refl _) _).alloc (by simp) _
  clear hw1
  have hsz : (Tryz.prog.info? 128).map (·.size) = some (b.map bV).toArray.size := by
    simp only [List.size_toArray, List.length_map, hl]
    kernel_rfl
  go_wp2_with (refine wpList_load_row rfl 128 _ rfl w.heap.size rfl 128 _ _ _ hz0 Tryz.underlying128 rfl hsz ?_)
  go_loopw [9, 3, 4] (fun i _ _ wr => ∃ k : Nat, k ≤ 64 ∧ i = .int .i64 k ∧ wr.heap[w.heap.size + 1]? = some (.cells ((begW b k).map wV).toArray 223 (0, 0)) ∧ Below w.heap.size w wr) (fun i _ _ _ => 64 - (intOf i).toNat)
  case atStart => exact ⟨0, Nat.zero_le _, rfl, hz1, hb⟩
  case round =>
    obtain ⟨k, hk, rfl, hzr, hB⟩ := hrel
    by_cases h1 : k < 64
    · have h1' : (k : Int) < 64 := by omega
      have hix : ∀ W : World, (Instr.index 128 (.agg (b.map bV).toArray) (.int .i64 k)).run Tryz.prog W = .ok (.int .u8 ((b[k]'(by omega)).toNat : Nat)) W :=
        run_index_agg 128 5 64 k _ _ _ Tryz.underlying128 Tryz.underlying5 rfl (by kernel_rfl) h1 (map_at (by omega))
      have hq : k / 4 < 64 := by omega
      have hc0 := arr_cell hzr (map_at (f := wV) (i := k / 4) (by rw [begW_len]; exact hq))
      clear hz0 hz1 hb hsz
      have hd1 : 0 ≤ (k : Int) / 4 := by omega
      have hd2 : (k : Int) / 4 < 64 := by omega
      have hd3 : ((k : Int) / 4).toNat = k / 4 := by omega
      have hd4 : 0 ≤ 24 - 8 * ((k : Int) % 4) := by omega
      have hd5 : 24 - 8 * ((k : Int) % 4) ≤ 32 := by omega
      rw [begW_at] at hc0
      unfold wV at hc0
      have HSET := Lib.hid (begW_set (b := b) (i := k) (by omega) hl)
      have hwl := wordB_lt (b.take k) (k / 4)
      generalize wordB (b.take k) (k / 4) = wd at *
      have q0 := LaterOf.cell hc0
      have HZR := Lib.hid hzr
      have HB := Lib.hid hB
      generalize b[k] = c at *
      clear hzr hB
      go_upto_region 4 with fail
      (refine wp_tail_quick 13 1 rfl (by kernel_rfl) (by kernel_rfl) (by kernel_rfl) (by kernel_rfl) ?_; simp only [List.take_succ_cons, List.take_zero]; (repeat (go_big_quiet_step (fail))); refine wpQuiet_nil ?_; intro _ hw1; obtain ⟨lw, hw2⟩ := hw1; subst hw2)
      have HB2 := Lib.hid (below_chain HB.out lw.below HB.out.size)
      have HZ2 := Lib.hid ((lw.below.block _ (heap_lt HZR.out)).trans HZR.out)
      have f1 := arr_frozen (i := k / 4) HZ2.out
      have c1 := q0 lw
      have s1 := is_some c1
      have HOV := Lib.hid (or_val (k := k) hwl (UInt8.toNat_lt c))
      clear q0 HB hc0
      (refine wpAny_ready (rs := [13]) (by kernel_rfl) (by simp) ?_; refine AllReady.cons rfl (fun K hK => ?_) AllReady.nil; go_simp; refine hK _ _ ?_; clear hK K)
      refine wpAny_done (by kernel_rfl) ?_ _
      rw [HOV.out]
      have HA := Lib.hid (arr_set (i := k / 4) (x := wd ||| c.toNat * 2 ^ (24 - 8 * (k % 4))) HZ2.out HB2.out (by omega))
      rw [HSET.out] at HA
      clear HZ2 HB2 f1 c1 s1
      obtain ⟨w3, hw3⟩ : ∃ w3, w3 = lw.world.setCell ⟨w.heap.size + 1, k / 4, none⟩ (.int .u32 ((wd ||| c.toNat * 2 ^ (24 - 8 * (k % 4)) : Nat) : Int)) := ⟨_, rfl⟩
      rw [← hw3]
      have HA2 : Hid (w3.heap[w.heap.size + 1]? = some (.cells ((begW b (k + 1)).map wV).toArray 223 (0, 0)) ∧ Below w.heap.size w w3) := by rw [hw3]; exact HA
      clear hw3 HA
      go_wp2
      go_roundw
      case rel => exact ⟨k + 1, by omega, by go_num, HA2.out.1, HA2.out.2⟩
      case measure => simp [intOf]; omega
    · obtain rfl : k = 64 := by omega
      rw [show ((64 : Nat) : Int) = 64 from rfl]
      go_wp2
      have hz2 : wr.heap[w.heap.size + 1]? = some (.cells (cellsW 64 (firstW b)) 223 (0, 0)) := by
        rw [hzr, begW_end hl]
        simp only [cellsW, List.map_append, List.map_replicate, firstW, List.length_map, List.length_range]
        rfl
      have hfl : (firstW b).length = 16 := by simp [firstW]
      obtain ⟨w2, rfl⟩ : ∃ w2 : World, w2 = wr := ⟨_, rfl⟩
      clear hzr hz0 hz1 hb hsz hk h1
      go_loopw [5] (fun i wr => ∃ (ws : List Nat) (m : Nat), ws.length = m + 16 ∧ m ≤ 48 ∧ i = .int .i64 ((m : Int) + 16) ∧ W32 ws ∧ extW (48 - m) ws = schedW b ∧ wr.heap[w.heap.size + 1]? = some (.cells (cellsW 64 ws) 223 (0, 0)) ∧ Below w.heap.size w wr) (fun i _ => 64 - (intOf i).toNat)
      case atStart => exact ⟨firstW b, 0, hfl, by omega, rfl, firstW_32 b, rfl, hz2, hB⟩
      case round =>
        obtain ⟨ws, m, hwl, hm, rfl, h32, hext, hzr, hB⟩ := hrel
        by_cases h1 : m < 48
        · have h1' : (m : Int) + 16 < 64 := by omega
          have c0 := arr_cell hzr (cellsW_at (i := m) (by omega))
          have c1 := arr_cell hzr (cellsW_at (i := m + 1) (by omega))
          have c9 := arr_cell hzr (cellsW_at (i := m + 9) (by omega))
          have c14 := arr_cell hzr (cellsW_at (i := m + 14) (by omega))
          have cz := arr_cell hzr (cellsW_zero (n := 64) (ws := ws) (i := m + 16) (by omega) (by omega))
          have HN := Lib.hid (nextW_at hwl)
          have HE := Lib.hid ((extW_one (n := 48 - m) (ws := ws) (by omega)).symm.trans hext)
          have hx1 := h32.at (i := m + 1) (by omega)
          have hx0 := h32.at (i := m) (by omega)
          have hx9 := h32.at (i := m + 9) (by omega)
          have hx14 := h32.at (i := m + 14) (by omega)
          generalize ws[m + 1] = x1 at *
          generalize ws[m] = x0 at *
          generalize ws[m + 9] = x9 at *
          generalize ws[m + 14] = x14 at *
          unfold wV at c0 c1 c9 c14
          have q0 := LaterOf.cell c0
          have q1 := LaterOf.cell c1
          have q9 := LaterOf.cell c9
          have q14 := LaterOf.cell c14
          have HZR := Lib.hid hzr
          have HB := Lib.hid hB
          have H32 := Lib.hid h32
          have HWL := Lib.hid hwl
          clear hzr hB h32 hext hwl
          go_upto_region 9 with fail
          (refine wp_region_later (by kernel_rfl) (by kernel_rfl) ?_; (repeat (go_big_quiet_step (fail))); refine wpQuiet_nil ?_; intro _ hw1; obtain ⟨lw, hw2⟩ := hw1; subst hw2)
          obtain ⟨lw0, hlw0⟩ : ∃ lw0, lw0 = lw := ⟨_, rfl⟩
          rw [← hlw0]
          clear hlw0 lw
          have r0 := LaterOf.cell (q0 lw0)
          have r9 := LaterOf.cell (q9 lw0)
          clear q0 q1 q9 q14 c0 c1 c9 c14 cz
          have D1 : ∀ W : World, Calls Tryz.prog 151 #[.int .u32 x1, .int .i64 7] W fun e w' => e = .returned (.int .u32 (rotN 7 x1 : Nat)) ∧ w' = W := fun W => down_walk x1 7 W hx1 (by decide) (by decide)
          have D2 : ∀ W : World, Calls Tryz.prog 151 #[.int .u32 x1, .int .i64 18] W fun e w' => e = .returned (.int .u32 (rotN 18 x1 : Nat)) ∧ w' = W := fun W => down_walk x1 18 W hx1 (by decide) (by decide)
          have D3 : ∀ W : World, Calls Tryz.prog 151 #[.int .u32 x14, .int .i64 17] W fun e w' => e = .returned (.int .u32 (rotN 17 x14 : Nat)) ∧ w' = W := fun W => down_walk x14 17 W hx14 (by decide) (by decide)
          have D4 : ∀ W : World, Calls Tryz.prog 151 #[.int .u32 x14, .int .i64 19] W fun e w' => e = .returned (.int .u32 (rotN 19 x14 : Nat)) ∧ w' = W := fun W => down_walk x14 19 W hx14 (by decide) (by decide)
          go_upto_region 10 with fail
          (refine wp_tail_quick 29 1 rfl (by kernel_rfl) (by kernel_rfl) (by kernel_rfl) (by kernel_rfl) ?_; simp only [List.take_succ_cons, List.take_zero]; (repeat (go_big_quiet_step (first | (go_at_call 151; with_reducible exact LaterOf.still _ (D1 _)) | (go_at_call 151; with_reducible exact LaterOf.still _ (D2 _)) | (go_at_call 151; with_reducible exact LaterOf.still _ (D3 _)) | (go_at_call 151; with_reducible exact LaterOf.still _ (D4 _))))); refine wpQuiet_nil ?_; intro _ hw1; obtain ⟨lw, hw2⟩ := hw1; subst hw2)
          have HB2 := Lib.hid (below_chain (below_chain HB.out lw0.below HB.out.size) lw.below (below_chain HB.out lw0.below HB.out.size).size)
          have HZ2 := Lib.hid ((lw.below.block _ (heap_lt ((lw0.below.block _ (heap_lt HZR.out)).trans HZR.out))).trans ((lw0.below.block _ (heap_lt HZR.out)).trans HZR.out))
          have f1 := arr_frozen (i := m + 16) HZ2.out
          have c1 := arr_cell HZ2.out (cellsW_zero (n := 64) (ws := ws) (i := m + 16) (by have := HWL.out; omega) (by omega))
          have s1 := is_some c1
          have HOV : Hid (((x0 : Int) + x9 + bits BinOp.xor IntKind.u32 (bits BinOp.xor IntKind.u32 ((rotN 7 x1 : Nat) : Int) ((rotN 18 x1 : Nat) : Int)) ((x1 : Int) / 8) + bits BinOp.xor IntKind.u32 (bits BinOp.xor IntKind.u32 ((rotN 17 x14 : Nat) : Int) ((rotN 19 x14 : Nat) : Int)) ((x14 : Int) / 1024)) % 4294967296 = ((nextW ws : Nat) : Int)) := Lib.hid (by
            rw [ssA_val hx1, ssB_val hx14, HN.out]
            omega)
          clear r0 r9 D1 D2 D3 D4
          (refine wpAny_ready (rs := [29]) (by kernel_rfl) (by simp) ?_; refine AllReady.cons rfl (fun K hK => ?_) AllReady.nil; go_simp; refine hK _ _ ?_; clear hK K)
          refine wpAny_done (by kernel_rfl) ?_ _
          rw [HOV.out]
          have HA := Lib.hid (arr_push (x := nextW ws) HZ2.out (by have := HWL.out; omega) HB2.out (by omega))
          rw [HWL.out] at HA
          obtain ⟨w3, hw3⟩ : ∃ w3, w3 = lw.world.setCell ⟨w.heap.size + 1, m + 16, none⟩ (.int .u32 ((nextW ws : Nat) : Int)) := ⟨_, rfl⟩
          rw [← hw3]
          have HA2 : Hid (w3.heap[w.heap.size + 1]? = some (.cells (cellsW 64 (ws ++ [nextW ws])) 223 (0, 0)) ∧ Below w.heap.size w w3) := by rw [hw3]; exact HA
          clear hw3 HA HZ2 HB2 f1 c1 s1
          go_wp2
          go_roundw
          case rel => exact ⟨ws ++ [nextW ws], m + 1, by rw [List.length_append, HWL.out]; rfl, by omega, by go_num, H32.out.snoc (nextW_lt _), by rw [← HE.out, show 48 - (m + 1) = 48 - m - 1 by omega], HA2.out.1, HA2.out.2⟩
          case measure => simp [intOf]; omega
        · obtain rfl : m = 48 := by omega
          have hws : ws = schedW b := hext
          rw [cellsW_all (by omega), hws] at hzr
          have hsz : (Tryz.prog.info? 223).map (·.size) = some (((schedW b).map wV).toArray).size := by
            simp only [List.size_toArray, List.length_map, schedW_len]
            kernel_rfl
          have HB := Lib.hid hB
          have hone := one_map (f := wV) (fun _ => rfl) (schedW b)
          clear hext h32 hws hwl hz2 hB
          go_upto_region 11 with fail
          apply wp_region_lit
          refine wpList_load_row rfl 223 _ rfl (w.heap.size + 1) rfl 223 _ _ _ hzr Tryz.underlying223 rfl hsz ?_
          refine wpList_store_row rfl 223 _ _ rfl (w.heap.size + 1) ((schedW b).map wV).toArray rfl (by as_aux_lemma => kernel_rfl) 223 _ hzr hsz rfl hone ?_
          apply wpList_nil
          generalize hw2 : wr.setRow _ _ = w3
          have hz3 : w3.heap[w.heap.size + 1]? = some (.cells ((schedW b).map wV).toArray 223 (0, 0)) := by
            rw [← hw2]
            exact setRow_heap wr _ _ _ _ _ hzr
          have hb3 : Below w.heap.size w w3 := by
            rw [← hw2]
            exact below_setRow HB.out (by omega) _
          clear hw2
          rename_i hK
          refine hK _ _ ?_
          apply wp_ret
          exact bodyPost_ret (v := .agg ((schedW b).map wV).toArray) (results_cell_row rfl _ _ (w.heap.size + 1) 223 _ _ _ (by as_aux_lemma => kernel_rfl) hz3 Tryz.underlying223 rfl hsz) rfl ⟨rfl, hb3⟩
end Go.Proofs.YtocommjoncchpaaGreatDoor
