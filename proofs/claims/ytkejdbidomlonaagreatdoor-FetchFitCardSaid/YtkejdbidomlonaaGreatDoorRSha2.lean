/- The reference's words of a block. -/
import Derived.Test.YtkejdbidomlonaaGreatDoorJFTree13
import Derived.Test.YtkejdbidomlonaaGreatDoorJAhead
import Derived.Test.YtkejdbidomlonaaGreatDoorJObjAt
namespace Go.Proofs.YtkejdbidomlonaaGreatDoor
open Go.RowKit

set_option maxHeartbeats 4000000 in
set_option maxRecDepth 100000 in
theorem words_walk (b : List UInt8) (hl : b.length = 64) (w : World) :
    Calls Tryz.prog 73 #[.agg (b.map bV).toArray] w fun e w' => e = .returned (.agg ((schedW b).map wV).toArray) ∧ Below w.heap.size w w' := by
  go_enter Tryz.func73, Tryz.ntmps73
  go_upto_region 2 with fail
  generalize hw1 : ((w.alloc _).alloc _).alloc _ = w1
  have hz0 : w1.heap[w.heap.size]? = some (.cells (b.map bV).toArray 95 (0, 0)) := by
    rw [← hw1, Below.heap_alloc _ _ _ (by simp; omega)]
    exact heap_alloc2_old _ _ _
  have hz1 : w1.heap[w.heap.size + 1]? = some (.cells (Array.replicate 64 (.int .u32 0)) 123 (0, 0)) := by
    rw [← hw1, Below.heap_alloc _ _ _ (by simp)]
    exact heap_alloc2_new _ _ _
  have hz2 : w1.heap[w.heap.size + 1 + 1]? = some (.cells (cellsW 64 ((firstW b).take 0)) 123 (0, 0)) := by
    rw [← hw1]
    exact heap_alloc3 _ _ _ _
  have hb : Below w.heap.size w w1 := by
    rw [← hw1]
    exact (((Below.refl _ _).alloc (Nat.le_refl _) _).alloc (by simp) _).alloc (by simp; omega) _
  clear hw1
  go_wp2
  go_loopw [4] (fun i wr => ∃ k : Nat, k ≤ 16 ∧ i = .int .i64 k ∧ wr.heap[w.heap.size + 1 + 1]? = some (.cells (cellsW 64 ((firstW b).take k)) 123 (0, 0)) ∧ Gro (w.heap.size + 1 + 1) w1 wr) (fun i _ => 16 - (intOf i).toNat)
  case atStart => exact ⟨0, Nat.zero_le _, rfl, hz2, gro_of (Below.refl _ _)⟩
  case round =>
    obtain ⟨k, hk, rfl, hzr, hG⟩ := hrel
    have hfl := firstW_len b
    by_cases h1 : k < 16
    · have h1' : (k : Int) < 16 := by omega
      have y0 := (hG.block w.heap.size (heap_lt hz0) (fun e => by have := Option.some.inj e; omega)).trans hz0
      have c0 := LaterOf.cell (arr_cell y0 (map_at (f := bV) (i := 4 * k) (by omega)))
      have c1 := LaterOf.cell (arr_cell y0 (map_at (f := bV) (i := 4 * k + 1) (by omega)))
      have c2 := LaterOf.cell (arr_cell y0 (map_at (f := bV) (i := 4 * k + 2) (by omega)))
      have c3 := LaterOf.cell (arr_cell y0 (map_at (f := bV) (i := 4 * k + 3) (by omega)))
      have htl : ((firstW b).take k).length = k := by rw [List.length_take]; omega
      have hwv := firstW_at (b := b) (k := k) (by omega)
      rw [wordB_at (by omega)] at hwv
      have HT := Lib.hid (List.take_succ_eq_append_getElem (l := firstW b) (i := k) (by omega))
      generalize b[4 * k] = x0 at *
      generalize b[4 * k + 1] = x1 at *
      generalize b[4 * k + 2] = x2 at *
      generalize b[4 * k + 3] = x3 at *
      unfold bV at c0 c1 c2 c3
      have HWV : Hid (bits BinOp.or IntKind.u32 (bits BinOp.or IntKind.u32 (bits BinOp.or IntKind.u32 ((x0.toNat : Int) % 4294967296 * 16777216 % 4294967296) ((x1.toNat : Int) % 4294967296 * 65536 % 4294967296)) ((x2.toNat : Int) % 4294967296 * 256 % 4294967296)) ((x3.toNat : Int) % 4294967296) = (((firstW b)[k]'(by omega) : Nat) : Int)) := Lib.hid (by
        rw [hwv, ← word_or (UInt8.toNat_lt x0) (UInt8.toNat_lt x1) (UInt8.toNat_lt x2) (UInt8.toNat_lt x3)]
        have h0 := shl_cast (s := 24) (UInt8.toNat_lt x0) (by omega)
        have h1 := shl_cast (s := 16) (UInt8.toNat_lt x1) (by omega)
        have h2 := shl_cast (s := 8) (UInt8.toNat_lt x2) (by omega)
        have h3 := UInt8.toNat_lt x3
        rw [show ((x3.toNat : Int) % 4294967296) = (x3.toNat : Int) by omega]
        rw [← h0, ← h1, ← h2]
        rfl)
      generalize (firstW b)[k]'(by omega) = wd at *
      have HZR := Lib.hid hzr
      have HG := Lib.hid hG
      have HTL := Lib.hid htl
      clear hzr hG y0 hwv htl hfl
      go_upto_region 5 with fail
      (refine wp_tail_quick 31 1 rfl (by kernel_rfl) (by kernel_rfl) (by kernel_rfl) (by kernel_rfl) ?_; simp only [List.take_succ_cons, List.take_zero]; (repeat (go_big_quiet_step (fail))); refine wpQuiet_nil ?_; intro _ hw1; obtain ⟨lw, hw2⟩ := hw1; subst hw2)
      rw [HWV.out]
      have hz4 := (lw.below.block _ (heap_lt HZR.out)).trans HZR.out
      have HG4 := Lib.hid (gro_chain HG.out lw.below)
      have f1 := arr_frozen (i := k) hz4
      have d1 := arr_cell hz4 (cellsW_zero (n := 64) (i := k) (by have := HTL.out; omega) (by omega))
      have s1 := is_some d1
      have HA := Lib.hid (arr_push' (x := wd) hz4 (by have := HTL.out; omega))
      rw [HTL.out] at HA
      clear c0 c1 c2 c3 hz4 HWV
      (refine wpAny_ready (rs := [31]) (by kernel_rfl) (by simp) ?_; refine AllReady.cons rfl (fun K hK => ?_) AllReady.nil; go_simp; refine hK _ _ ?_; clear hK K)
      refine wpAny_done (by kernel_rfl) ?_ _
      obtain ⟨w3, hw3⟩ : ∃ w3, w3 = lw.world.setCell ⟨w.heap.size + 1 + 1, k, none⟩ (.int .u32 ((wd : Nat) : Int)) := ⟨_, rfl⟩
      rw [← hw3]
      have HA2 : Hid (w3.heap[w.heap.size + 1 + 1]? = some (.cells (cellsW 64 ((firstW b).take (k + 1))) 123 (0, 0))) := by rw [hw3, HT.out]; exact HA
      have HG5 : Hid (Gro (w.heap.size + 1 + 1) w1 w3) := Lib.hid (by rw [hw3]; exact gro_set HG4.out _ _)
      clear hw3 HA f1 d1 s1
      go_wp2
      go_roundw
      case rel => exact ⟨k + 1, by omega, by go_num, HA2.out, HG5.out⟩
      case measure => simp [intOf]; omega
    · obtain rfl : k = 16 := by omega
      rw [List.take_of_length_le (by rw [hfl]; exact Nat.le_refl _)] at hzr
      rw [show ((16 : Nat) : Int) = 16 from rfl]
      go_wp2
      obtain ⟨w2, rfl⟩ : ∃ w2 : World, w2 = wr := ⟨_, rfl⟩
      have HZ1 := Lib.hid hz1
      clear hz0 hz1 hz2 hk h1
      go_loopw [5] (fun i wr => ∃ (ws : List Nat) (m : Nat), ws.length = m + 16 ∧ m ≤ 48 ∧ i = .int .i64 ((m : Int) + 16) ∧ W32 ws ∧ extW (48 - m) ws = schedW b ∧ wr.heap[w.heap.size + 1 + 1]? = some (.cells (cellsW 64 ws) 123 (0, 0)) ∧ Gro (w.heap.size + 1 + 1) w1 wr) (fun i _ => 64 - (intOf i).toNat)
      case atStart => exact ⟨firstW b, 0, hfl, by omega, rfl, firstW_32 b, rfl, hzr, hG⟩
      case round =>
        clear hzr hG hfl
        obtain ⟨ws, m, hwl, hm, rfl, h32, hext, hzr, hG⟩ := hrel
        by_cases h1 : m < 48
        · have h1' : (m : Int) + 16 < 64 := by omega
          have c0 := arr_cell hzr (cellsW_at (i := m) (by omega))
          have c1 := arr_cell hzr (cellsW_at (i := m + 1) (by omega))
          have c9 := arr_cell hzr (cellsW_at (i := m + 9) (by omega))
          have c14 := arr_cell hzr (cellsW_at (i := m + 14) (by omega))
          have HN := Lib.hid (nextW_at hwl)
          have HE := Lib.hid ((extW_one (n := 48 - m) (ws := ws) (by omega)).symm.trans hext)
          have hx1 := h32.at (i := m + 1) (by omega)
          have hx0 := h32.at (i := m) (by omega)
          have hx9 := h32.at (i := m + 9) (by omega)
          have hx14 := h32.at (i := m + 14) (by omega)
          generalize ws[m + 1] = x1 at *
          generalize ws[m] = x0 at *
          generalize ws[m + 9] = x9 at *
          generalize ws[m + 14] = x14 at *
          unfold wV at c0 c1 c9 c14
          have q0 := LaterOf.cell c0
          have q9 := LaterOf.cell c9
          have HZR := Lib.hid hzr
          have HG := Lib.hid hG
          have H32 := Lib.hid h32
          have HWL := Lib.hid hwl
          clear hzr hG h32 hext hwl
          have D1 : ∀ W : World, Calls Tryz.prog 75 #[.int .u32 x1, .int .u64 7] W fun e w' => e = .returned (.int .u32 (rotN 7 x1 : Nat)) ∧ w' = W := fun W => rot_walk x1 7 W hx1 (by decide) (by decide)
          have D2 : ∀ W : World, Calls Tryz.prog 75 #[.int .u32 x1, .int .u64 18] W fun e w' => e = .returned (.int .u32 (rotN 18 x1 : Nat)) ∧ w' = W := fun W => rot_walk x1 18 W hx1 (by decide) (by decide)
          have D3 : ∀ W : World, Calls Tryz.prog 75 #[.int .u32 x14, .int .u64 17] W fun e w' => e = .returned (.int .u32 (rotN 17 x14 : Nat)) ∧ w' = W := fun W => rot_walk x14 17 W hx14 (by decide) (by decide)
          have D4 : ∀ W : World, Calls Tryz.prog 75 #[.int .u32 x14, .int .u64 19] W fun e w' => e = .returned (.int .u32 (rotN 19 x14 : Nat)) ∧ w' = W := fun W => rot_walk x14 19 W hx14 (by decide) (by decide)
          go_wp2_with (first | (go_at_call 75; (with_reducible refine (D1 _).mono ?_); rintro r wz ⟨rfl, rfl⟩) | (go_at_call 75; (with_reducible refine (D2 _).mono ?_); rintro r wz ⟨rfl, rfl⟩) | (go_at_call 75; (with_reducible refine (D3 _).mono ?_); rintro r wz ⟨rfl, rfl⟩) | (go_at_call 75; (with_reducible refine (D4 _).mono ?_); rintro r wz ⟨rfl, rfl⟩))
          rw [ssA_val hx1, ssB_val hx14]
          clear D1 D2 D3 D4
          (refine wp_tail_quick 15 1 rfl (by kernel_rfl) (by kernel_rfl) (by kernel_rfl) (by kernel_rfl) ?_; simp only [List.take_succ_cons, List.take_zero]; (repeat (go_big_quiet_step (fail))); refine wpQuiet_nil ?_; intro _ hw1; obtain ⟨lw, hw2⟩ := hw1; subst hw2)
          rw [show ((((x0 : Int) + (ssA x1 : Nat) + x9) % 4294967296 + (ssB x14 : Nat)) % 4294967296) = ((nextW ws : Nat) : Int) by rw [HN.out]; omega]
          have hz4 := (lw.below.block _ (heap_lt HZR.out)).trans HZR.out
          have HG4 := Lib.hid (gro_chain HG.out lw.below)
          have f1 := arr_frozen (i := m + 16) hz4
          have d1 := arr_cell hz4 (cellsW_zero (n := 64) (i := m + 16) (by have := HWL.out; omega) (by omega))
          have s1 := is_some d1
          have HA := Lib.hid (arr_push' (x := nextW ws) hz4 (by have := HWL.out; omega))
          rw [HWL.out] at HA
          clear q0 q9 c0 c1 c9 c14 hz4
          (refine wpAny_ready (rs := [15]) (by kernel_rfl) (by simp) ?_; refine AllReady.cons rfl (fun K hK => ?_) AllReady.nil; go_simp; refine hK _ _ ?_; clear hK K)
          refine wpAny_done (by kernel_rfl) ?_ _
          obtain ⟨w3, hw3⟩ : ∃ w3, w3 = lw.world.setCell ⟨w.heap.size + 1 + 1, m + 16, none⟩ (.int .u32 ((nextW ws : Nat) : Int)) := ⟨_, rfl⟩
          rw [← hw3]
          have HA2 : Hid (w3.heap[w.heap.size + 1 + 1]? = some (.cells (cellsW 64 (ws ++ [nextW ws])) 123 (0, 0))) := by rw [hw3]; exact HA
          have HG5 : Hid (Gro (w.heap.size + 1 + 1) w1 w3) := Lib.hid (by rw [hw3]; exact gro_set HG4.out _ _)
          clear hw3 HA f1 d1 s1
          go_wp2
          go_roundw
          case rel => exact ⟨ws ++ [nextW ws], m + 1, by rw [List.length_append, HWL.out]; rfl, by omega, by go_num, H32.out.snoc (nextW_lt _), by rw [← HE.out, show 48 - (m + 1) = 48 - m - 1 by omega], HA2.out, HG5.out⟩
          case measure => simp [intOf]; omega
        · obtain rfl : m = 48 := by omega
          have hws : ws = schedW b := hext
          rw [cellsW_all (by omega), hws] at hzr
          have hz1 := (hG.block _ (heap_lt HZ1.out) (fun e => by have := Option.some.inj e; omega)).trans HZ1.out
          have hsz : (Tryz.prog.info? 123).map (·.size) = some (((schedW b).map wV).toArray).size := by
            simp only [List.size_toArray, List.length_map, schedW_len]
            kernel_rfl
          have hsz2 : (Array.replicate 64 (Value.int .u32 0)).size = (((schedW b).map wV).toArray).size := by
            simp only [List.size_toArray, List.length_map, schedW_len, Array.size_replicate]
          have HB := Lib.hid (hb.trans (gro_below hG (by omega) hb.size))
          have hone := one_map (f := wV) (fun _ => rfl) (schedW b)
          clear hext h32 hws hwl hG
          go_upto_region 14 with fail
          apply wp_region_lit
          refine wpList_load_row rfl 123 _ rfl (w.heap.size + 1 + 1) rfl 123 _ _ _ hzr Tryz.underlying123 rfl hsz ?_
          refine wpList_store_row rfl 123 _ _ rfl (w.heap.size + 1) ((schedW b).map wV).toArray rfl (by as_aux_lemma => kernel_rfl) 123 _ hz1 hsz hsz2 hone ?_
          apply wpList_nil
          generalize hw2 : wr.setRow _ _ = w3
          have hz3 : w3.heap[w.heap.size + 1]? = some (.cells ((schedW b).map wV).toArray 123 (0, 0)) := by
            rw [← hw2]
            exact setRow_heap wr _ _ _ _ _ hz1
          have hb3 : Below w.heap.size w w3 := by
            rw [← hw2]
            exact below_setRow HB.out (by omega) _
          clear hw2
          rename_i hK
          refine hK _ _ ?_
          apply wp_ret
          exact bodyPost_ret (v := .agg ((schedW b).map wV).toArray) (results_cell_row rfl _ _ (w.heap.size + 1) 123 _ _ _ (by as_aux_lemma => kernel_rfl) hz3 Tryz.underlying123 rfl hsz) rfl ⟨rfl, hb3⟩
end Go.Proofs.YtkejdbidomlonaaGreatDoor
