/- The reference's block of a sum. Rows of single cells that a call owns, marked behind their room (a text's bytes): append. No program in sight. -/
import Derived.Test.YtaompdnnkfmjhaaGreatDoorJRSha
import Derived.Test.YtaompdnnkfmjhaaGreatDoorJMapI
import Derived.ArgAppend
import Derived.Lib.ConvBytes
namespace Go.Proofs.YtaompdnnkfmjhaaGreatDoor
open Go.RowKit

set_option maxHeartbeats 8000000 in
set_option maxRecDepth 100000 in
theorem rblock_walk (h : H8) (hh : h.ok) (b : List UInt8) (hl : b.length = 64) (w : World) :
    Calls Tryz.prog 141 #[.agg (h.words.map wV).toArray, .agg (b.map bV).toArray] w fun e w' => e = .returned (.agg ((blockH h b).words.map wV).toArray) ∧ Below w.heap.size w w' := by
  obtain ⟨w1, hw1, hb1, hz0, hz1, hz2⟩ : ∃ w1, w1 = ((w.alloc (.cells (h.words.map wV).toArray 205)).alloc (.cells (b.map bV).toArray 207)).alloc (.cells (Array.replicate 8 (.int .u32 0)) 205) ∧ Below w.heap.size w w1 ∧ w1.heap[w.heap.size]? = some (.cells (h.words.map wV).toArray 205 (0, 0)) ∧ w1.heap[w.heap.size + 1]? = some (.cells (b.map bV).toArray 207 (0, 0)) ∧ w1.heap[w.heap.size + 1 + 1]? = some (.cells (Array.replicate 8 (.int .u32 0)) 205 (0, 0)) := by
    refine ⟨_, rfl, (((Below.refl _ _).alloc (Nat.le_refl _) _).alloc (by simp) _).alloc (by simp; omega) _, ?_, ?_, ?_⟩
    · rw [Below.heap_alloc _ _ _ (by simp; omega)]
      exact heap_alloc2_old _ _ _
    · rw [Below.heap_alloc _ _ _ (by simp)]
      exact heap_alloc2_new _ _ _
    · exact heap_alloc3 _ _ _ _
  have CW := words_walk b hl w1
  have hsz : (Tryz.prog.info? 207).map (·.size) = some (b.map bV).toArray.size := by
    simp only [List.size_toArray, List.length_map, hl]
    kernel_rfl
  have hsl := schedW_len b
  have hs32 := schedW_32 b
  have HBH := Lib.hid (show blockH h b = addH h (runH h (schedW b) 64) from rfl)
  generalize schedW b = ws at *
  have hss : (Tryz.prog.info? 222).map (·.size) = some ((ws.map wV).toArray).size := by
    simp only [List.size_toArray, List.length_map, hsl]
    kernel_rfl
  have hso : (Array.replicate 64 (Value.int .u32 0)).size = ((ws.map wV).toArray).size := by
    simp only [List.size_toArray, List.length_map, hsl, Array.size_replicate]
  have hs1 := one_map (f := wV) (fun _ => rfl) ws
  go_enter Tryz.func141, Tryz.ntmps141
  go_upto_region 1 with fail
  generalize hww : World.alloc _ _ = w1'
  obtain rfl : w1' = w1 := by rw [← hww, hw1]; rfl
  clear hww hw1
  apply wp_region_lit
  refine wpList_load_row rfl 207 _ rfl (w.heap.size + 1) rfl 207 _ _ _ hz1 Tryz.underlying207 rfl hsz ?_
  clear hsz
  go_wp2_with fail
  refine CW.mono ?_
  rintro e w2 ⟨rfl, hb2⟩
  have hB2 := below_chain hb1 hb2 hb1.size
  have y0 := (hb2.block _ (heap_lt hz0)).trans hz0
  have y2 := (hb2.block _ (heap_lt hz2)).trans hz2
  have hg2 : w.heap.size + 1 + 1 < w2.heap.size := heap_lt y2
  clear CW hz0 hz1 hz2
  go_upto_region 2 with (refine wpList_store_row rfl 222 _ _ rfl w2.heap.size (ws.map wV).toArray rfl rfl 222 (Array.replicate 64 (Value.int .u32 0)) (heap_alloc_new _ _) hss hso hs1 ?_; simp only [Act.put])
  generalize hw3 : World.setRow _ _ _ = w3
  obtain ⟨xw, hb3⟩ : w3.heap[w2.heap.size]? = some (.cells (ws.map wV).toArray 222 (0, 0)) ∧ Below w2.heap.size w2 w3 := by rw [← hw3]; exact laid_row _ _ _ _
  clear hw3 hss hso hs1
  have hB3 := below_chain hB2 hb3 hB2.size
  replace y0 := (hb3.block _ (heap_lt y0)).trans y0
  replace y2 := (hb3.block _ (heap_lt y2)).trans y2
  have CK := rconst_walk w3
  have hks : (Tryz.prog.info? 222).map (·.size) = some ((kSha.map wV).toArray).size := by kernel_rfl
  have hk1 := one_map (f := wV) (fun _ => rfl) kSha
  clear hb1 hb2 hB2
  go_wp2_with fail
  refine CK.mono ?_
  rintro e w4 ⟨rfl, hb4⟩
  have hB4 := below_chain hB3 hb4 hB3.size
  replace y0 := (hb4.block _ (heap_lt y0)).trans y0
  replace y2 := (hb4.block _ (heap_lt y2)).trans y2
  replace xw := (hb4.block _ (heap_lt xw)).trans xw
  clear CK
  go_upto_region 3 with (refine wpList_store_row rfl 222 _ _ rfl w4.heap.size (kSha.map wV).toArray rfl rfl 222 (Array.replicate 64 (Value.int .u32 0)) (heap_alloc_new _ _) hks rfl hk1 ?_; simp only [Act.put])
  generalize hw5 : World.setRow _ _ _ = w5
  obtain ⟨xk, hb5⟩ : w5.heap[w4.heap.size]? = some (.cells (kSha.map wV).toArray 222 (0, 0)) ∧ Below w4.heap.size w4 w5 := by rw [← hw5]; exact laid_row _ _ _ _
  clear hw5 hks hk1 hb3
  have hB5 := below_chain hB4 hb5 hB4.size
  replace y0 := (hb5.block _ (heap_lt y0)).trans y0
  replace y2 := (hb5.block _ (heap_lt y2)).trans y2
  replace xw := (hb5.block _ (heap_lt xw)).trans xw
  have hhs : (Tryz.prog.info? 205).map (·.size) = some ((h.words.map wV).toArray).size := by kernel_rfl
  have hh1 := one_map (f := wV) (fun _ => rfl) h.words
  clear hb4 hB3 hB4
  go_upto_region 4 with (first | (refine wpList_load_row rfl 205 _ rfl w.heap.size rfl 205 _ _ _ y0 Tryz.underlying205 rfl hhs ?_; simp only [Act.put]) | (refine wpList_store_row rfl 205 _ _ rfl w5.heap.size (h.words.map wV).toArray rfl rfl 205 (Array.replicate 8 (Value.int .u32 0)) (heap_alloc_new _ _) hhs rfl hh1 ?_; simp only [Act.put]))
  generalize hw6 : World.setRow _ _ _ = w6
  obtain ⟨xv, hb6⟩ : w6.heap[w5.heap.size]? = some (.cells (h.words.map wV).toArray 205 (0, 0)) ∧ Below w5.heap.size w5 w6 := by rw [← hw6]; exact laid_row _ _ _ _
  clear hw6 hhs hh1
  have hB6 := below_chain hB5 hb6 hB5.size
  have HG25 := Lib.hid (heap_lt xw)
  have HG45 := Lib.hid (heap_lt xk)
  replace y0 := (hb6.block _ (heap_lt y0)).trans y0
  replace y2 := (hb6.block _ (heap_lt y2)).trans y2
  replace xw := (hb6.block _ (heap_lt xw)).trans xw
  replace xk := (hb6.block _ (heap_lt xk)).trans xk
  have Y0 := Lib.hid y0
  have Y2 := Lib.hid y2
  have XW := Lib.hid xw
  have XK := Lib.hid xk
  have HSL := Lib.hid hsl
  have HS32 := Lib.hid hs32
  have HB5 := Lib.hid hB5
  have HB6 := Lib.hid hB6
  clear y0 y2 xw xk hsl hs32 hb5 hB5 hb6 hB6
  go_wp2
  go_loopw [8] (fun i wr => ∃ (k : Nat) (v : H8), k ≤ 64 ∧ i = .int .i64 k ∧ v = runH h ws k ∧ wr.heap[w5.heap.size]? = some (.cells (v.words.map wV).toArray 205 (0, 0)) ∧ Gro w5.heap.size w6 wr) (fun i _ => 64 - (intOf i).toNat)
  case atStart => exact ⟨0, h, Nat.zero_le _, rfl, rfl, xv, gro_of (Below.refl _ _)⟩
  case round =>
    clear xv
    obtain ⟨k, v, hk, rfl, hv, hzr, hG⟩ := hrel
    have hvo : v.ok := hv ▸ runH_ok hh ws k
    have HV := Lib.hid hv
    clear hv
    by_cases h1 : k < 64
    · have h1' : (k : Int) < 64 := by omega
      have hkl : k < kSha.length := h1
      have hwl : k < ws.length := by have := HSL.out; omega
      have ck := arr_cell ((hG.block _ (heap_lt XK.out) (fun e => by have := Option.some.inj e; have := HG45.out; omega)).trans XK.out) (map_at (f := wV) hkl)
      have cw := arr_cell ((hG.block _ (heap_lt XW.out) (fun e => by have := Option.some.inj e; have := HG25.out; omega)).trans XW.out) (map_at (f := wV) hwl)
      unfold wV at ck cw
      have HST := Lib.hid (show runH h ws (k + 1) = stepH (runH h ws k) (kSha.getD k 0) (ws.getD k 0) from rfl)
      rw [getD_nat hkl, getD_nat hwl, ← HV.out] at HST
      have hkk : kSha[k] < 4294967296 := (show W32 kSha by unfold W32; decide) _ (List.getElem_mem _)
      have hww := HS32.out.at hwl
      generalize kSha[k] = kk at *
      generalize ws[k] = ww at *
      clear hkl hwl
      obtain ⟨a, b0, c, d, e, f, g, h0⟩ := v
      obtain ⟨ha, hb, hc, hd, he, hf, hg, hh0⟩ := hvo
      simp only at ha hb hc hd he hf hg hh0
      obtain ⟨c0, c1, c2, c3, c4, c5, c6, c7⟩ := box8 hzr
      simp only at c0 c1 c2 c3 c4 c5 c6 c7
      have D1 : ∀ W : World, Calls Tryz.prog 155 #[.int .u32 e, .int .u64 6] W fun r w' => r = .returned (.int .u32 (rotN 6 e : Nat)) ∧ w' = W := fun W => rot_walk e 6 W he (by decide) (by decide)
      have D2 : ∀ W : World, Calls Tryz.prog 155 #[.int .u32 e, .int .u64 11] W fun r w' => r = .returned (.int .u32 (rotN 11 e : Nat)) ∧ w' = W := fun W => rot_walk e 11 W he (by decide) (by decide)
      have D3 : ∀ W : World, Calls Tryz.prog 155 #[.int .u32 e, .int .u64 25] W fun r w' => r = .returned (.int .u32 (rotN 25 e : Nat)) ∧ w' = W := fun W => rot_walk e 25 W he (by decide) (by decide)
      have E1 : ∀ W : World, Calls Tryz.prog 155 #[.int .u32 a, .int .u64 2] W fun r w' => r = .returned (.int .u32 (rotN 2 a : Nat)) ∧ w' = W := fun W => rot_walk a 2 W ha (by decide) (by decide)
      have E2 : ∀ W : World, Calls Tryz.prog 155 #[.int .u32 a, .int .u64 13] W fun r w' => r = .returned (.int .u32 (rotN 13 a : Nat)) ∧ w' = W := fun W => rot_walk a 13 W ha (by decide) (by decide)
      have E3 : ∀ W : World, Calls Tryz.prog 155 #[.int .u32 a, .int .u64 22] W fun r w' => r = .returned (.int .u32 (rotN 22 a : Nat)) ∧ w' = W := fun W => rot_walk a 22 W ha (by decide) (by decide)
      have HZR := Lib.hid hzr
      have HG := Lib.hid hG
      clear hzr hG
      have p4 := LaterOf.cell c4
      go_upto_region 7 with fail
      (refine wp_region_later (by kernel_rfl) (by kernel_rfl) ?_; (repeat (go_big_quiet_step (first | (go_at_call 155; with_reducible exact LaterOf.still _ (D1 _)) | (go_at_call 155; with_reducible exact LaterOf.still _ (D2 _)) | (go_at_call 155; with_reducible exact LaterOf.still _ (D3 _))))); refine wpQuiet_nil ?_; intro _ hw1; obtain ⟨lw, hw2⟩ := hw1; subst hw2)
      rw [bsE_val he]
      have q0 := LaterOf.cell c0 lw
      have q1 := LaterOf.cell c1 lw
      have q2 := LaterOf.cell c2 lw
      have q3 := LaterOf.cell c3 lw
      have q4 := LaterOf.cell c4 lw
      have q5 := LaterOf.cell c5 lw
      have q6 := LaterOf.cell c6 lw
      have q7 := LaterOf.cell c7 lw
      have qk := LaterOf.cell ck lw
      have qw := LaterOf.cell cw lw
      have HZ7 := Lib.hid ((lw.below.block _ (heap_lt HZR.out)).trans HZR.out)
      have HG7 := Lib.hid (gro_chain HG.out lw.below)
      clear c0 c1 c2 c3 c4 c5 c6 c7 ck cw p4 D1 D2 D3 HZR HG
      generalize lw.world = w7 at *
      clear lw
      go_upto_region 9 with fail
      rw [chR_val he hf hg]
      have p7 := LaterOf.cell q7
      have pk := LaterOf.cell qk
      have pw := LaterOf.cell qw
      (refine wp_region_later (by kernel_rfl) (by kernel_rfl) ?_; (repeat (go_big_quiet_step (fail))); refine wpQuiet_nil ?_; intro _ hw1; obtain ⟨lw, hw2⟩ := hw1; subst hw2)
      clear p7 pk pw qk qw
      have r0 := LaterOf.cell q0 lw
      have r1 := LaterOf.cell q1 lw
      have r2 := LaterOf.cell q2 lw
      have r3 := LaterOf.cell q3 lw
      have r4 := LaterOf.cell q4 lw
      have r5 := LaterOf.cell q5 lw
      have r6 := LaterOf.cell q6 lw
      have r7 := LaterOf.cell q7 lw
      have HZ8 := Lib.hid ((lw.below.block _ (heap_lt HZ7.out)).trans HZ7.out)
      have HG8 := Lib.hid (gro_chain HG7.out lw.below)
      clear q0 q1 q2 q3 q4 q5 q6 q7 HZ7 HG7
      generalize lw.world = w8 at *
      clear lw
      have p0 := LaterOf.cell r0
      rw [show ((((h0 : Int) + (bsE e : Nat) + (chN e f g : Nat) + kk) % 4294967296 + ww) % 4294967296) = ((tSha ⟨a, b0, c, d, e, f, g, h0⟩ kk ww : Nat) : Int) by simp only [tSha]; omega]
      have HSA := Lib.hid (show stepH ⟨a, b0, c, d, e, f, g, h0⟩ kk ww = ⟨(tSha ⟨a, b0, c, d, e, f, g, h0⟩ kk ww + bsA a + majN a b0 c) % 4294967296, a, b0, c, (d + tSha ⟨a, b0, c, d, e, f, g, h0⟩ kk ww) % 4294967296, e, f, g⟩ from rfl)
      rw [HSA.out] at HST
      generalize tSha ⟨a, b0, c, d, e, f, g, h0⟩ kk ww = T at *
      clear HSA
      go_upto_region 10 with fail
      (refine wp_region_later (by kernel_rfl) (by kernel_rfl) ?_; (repeat (go_big_quiet_step (first | (go_at_call 155; with_reducible exact LaterOf.still _ (E1 _)) | (go_at_call 155; with_reducible exact LaterOf.still _ (E2 _)) | (go_at_call 155; with_reducible exact LaterOf.still _ (E3 _))))); refine wpQuiet_nil ?_; intro _ hw1; obtain ⟨lw, hw2⟩ := hw1; subst hw2)
      rw [bsA_val ha]
      have q0 := LaterOf.cell r0 lw
      have q1 := LaterOf.cell r1 lw
      have q2 := LaterOf.cell r2 lw
      have q3 := LaterOf.cell r3 lw
      have q4 := LaterOf.cell r4 lw
      have q5 := LaterOf.cell r5 lw
      have q6 := LaterOf.cell r6 lw
      have q7 := LaterOf.cell r7 lw
      have HZ9 := Lib.hid ((lw.below.block _ (heap_lt HZ8.out)).trans HZ8.out)
      have HG9 := Lib.hid (gro_chain HG8.out lw.below)
      clear r0 r1 r2 r3 r4 r5 r6 r7 HZ8 HG8 p0 E1 E2 E3
      generalize lw.world = w9 at *
      clear lw
      have s0 := is_some q0
      have s1 := is_some q1
      have s2 := is_some q2
      have s3 := is_some q3
      have s4 := is_some q4
      have s5 := is_some q5
      have s6 := is_some q6
      have s7 := is_some q7
      have f0 := arr_frozen (i := 0) HZ9.out
      have f1 := arr_frozen (i := 1) HZ9.out
      have f2 := arr_frozen (i := 2) HZ9.out
      have f3 := arr_frozen (i := 3) HZ9.out
      have f4 := arr_frozen (i := 4) HZ9.out
      have f5 := arr_frozen (i := 5) HZ9.out
      have f6 := arr_frozen (i := 6) HZ9.out
      have f7 := arr_frozen (i := 7) HZ9.out
      go_wp2
      go_roundw
      case rel =>
        rw [majR_val ha hb hc, show (((T : Nat) : Int) + (bsA a : Nat) + (majN a b0 c : Nat)) % 4294967296 = (((T + bsA a + majN a b0 c) % 4294967296 : Nat) : Int) by omega, show (((d : Nat) : Int) + T) % 4294967296 = (((d + T) % 4294967296 : Nat) : Int) by omega]
        exact ⟨k + 1, ⟨(T + bsA a + majN a b0 c) % 4294967296, a, b0, c, (d + T) % 4294967296, e, f, g⟩, by omega, by go_num, HST.out.symm, set8 HZ9.out _ _ _ _ _ _ _ _, gro_set8 HG9.out _ _ _ _ _ _ _ _⟩
      case measure => simp [intOf]; omega
    · obtain rfl : k = 64 := by omega
      rw [← HV.out] at HBH
      obtain ⟨A, hA⟩ : ∃ A, (addH h v).words = A := ⟨_, rfl⟩
      have hAl : A.length = h.words.length := by rw [← hA]; rfl
      have HAT := Lib.hid (fun (j : Nat) (hj : j < 8) => addH_at h v hj)
      have HA := Lib.hid hA
      have HAL := Lib.hid hAl
      have HVO := Lib.hid hvo
      have hwg : w.heap.size + 1 + 1 < w5.heap.size := by have := HB5.out.size; have h1 := HG25.out; omega
      have y0 := (hG.block _ (heap_lt Y0.out) (fun e => by have := Option.some.inj e; omega)).trans Y0.out
      have y2 := (hG.block _ (heap_lt Y2.out) (fun e => by have := Option.some.inj e; omega)).trans Y2.out
      have z0' : wr.heap[w.heap.size]? = some (.cells ((A.take 0 ++ h.words.drop 0).map wV).toArray 205 (0, 0)) := y0
      have hB := HB6.out.trans (gro_below hG HB5.out.size HB6.out.size)
      have HZV := Lib.hid hzr
      have HY2 := Lib.hid y2
      have HB := Lib.hid hB
      have HWG := Lib.hid hwg
      obtain ⟨wo, rfl⟩ : ∃ wo : World, wo = wr := ⟨_, rfl⟩
      rw [show ((64 : Nat) : Int) = 64 from rfl]
      clear hA hAl hvo y0 y2 hzr hB hG hk h1 Y0 Y2 XK XW HSL HS32 HV hwg
      go_wp2
      go_loopw [14] (fun i wr => ∃ k : Nat, k ≤ 8 ∧ i = .int .i64 k ∧ wr.heap[w.heap.size]? = some (.cells ((A.take k ++ h.words.drop k).map wV).toArray 205 (0, 0)) ∧ wr.heap[w.heap.size + 1 + 1]? = some (.cells (Array.replicate 8 (.int .u32 0)) 205 (0, 0)) ∧ wr.heap[w5.heap.size]? = some (.cells (v.words.map wV).toArray 205 (0, 0)) ∧ Below w.heap.size w wr) (fun i _ => 8 - (intOf i).toNat)
      case atStart => exact ⟨0, Nat.zero_le _, rfl, z0', HY2.out, HZV.out, HB.out⟩
      case round =>
        clear z0'
        obtain ⟨k, hk, rfl, hzr, hz2, hzv, hBr⟩ := hrel
        by_cases h1 : k < 8
        · have h1' : (k : Int) < 8 := by omega
          have hkl : k < h.words.length := h1
          have hkv : k < v.words.length := h1
          have hc := LaterOf.cell (arr_cell hzr (v := wV h.words[k]) (by rw [List.getElem?_toArray, List.getElem?_map, mix_at hkl HAL.out]; rfl))
          have hcv := LaterOf.cell (arr_cell hzv (map_at (f := wV) hkv))
          unfold wV at hc hcv
          have hkA : k < A.length := by rw [HAL.out]; exact h1
          have e1 : A[k] = (h.words[k] + v.words[k]) % 4294967296 := by
            have := HAT.out k h1
            simp only [HA.out] at this
            exact this
          have HMX := Lib.hid (mix_set hkA HAL.out)
          have hxw := hh.words.at hkl
          have hyw := HVO.out.words.at hkv
          have HEQ : Hid ((((h.words[k] : Nat) : Int) + ((v.words[k] : Nat) : Int)) % 4294967296 = ((A[k] : Nat) : Int)) := Lib.hid (by rw [e1]; omega)
          have HZR := Lib.hid hzr
          have HZ2 := Lib.hid hz2
          have HZV2 := Lib.hid hzv
          have HBR := Lib.hid hBr
          clear e1 hzr hz2 hzv hBr
          generalize h.words[k] = x at *
          generalize v.words[k] = y at *
          generalize A[k] = s at *
          clear hkl hkA hkv
          go_upto_region 23 with fail
          (refine wp_tail_quick 9 1 rfl (by kernel_rfl) (by kernel_rfl) (by kernel_rfl) (by kernel_rfl) ?_; simp only [List.take_succ_cons, List.take_zero]; (repeat (go_big_quiet_step (fail))); refine wpQuiet_nil ?_; intro _ hw1; obtain ⟨lw, hw2⟩ := hw1; subst hw2)
          rw [HEQ.out]
          have z8 := (lw.below.block _ (heap_lt HZR.out)).trans HZR.out
          have z8b := (lw.below.block _ (heap_lt HZ2.out)).trans HZ2.out
          have z8v := (lw.below.block _ (heap_lt HZV2.out)).trans HZV2.out
          have hb8 := below_chain HBR.out lw.below HBR.out.size
          have q0 := hc lw
          have s0 := is_some q0
          have f0 := arr_frozen (i := k) z8
          have HAS := Lib.hid (arr_set (i := k) (x := s) z8 hb8 (Nat.le_refl _))
          rw [HMX.out] at HAS
          have HO2 := Lib.hid ((heap_setCell_other lw.world ⟨w.heap.size, k, none⟩ (w.heap.size + 1 + 1) (wV s) (by simp only; omega)).trans z8b)
          have HOV := Lib.hid ((heap_setCell_other lw.world ⟨w.heap.size, k, none⟩ w5.heap.size (wV s) (by have := HWG.out; simp only; omega)).trans z8v)
          clear hc hcv z8 z8b z8v hb8
          (refine wpAny_ready (rs := [9]) (by kernel_rfl) (by simp) ?_; refine AllReady.cons rfl (fun K hK => ?_) AllReady.nil; go_simp; refine hK _ _ ?_; clear hK K)
          refine wpAny_done (by kernel_rfl) ?_ _
          obtain ⟨wq, hwq⟩ : ∃ wq, wq = lw.world.setCell ⟨w.heap.size, k, none⟩ (.int .u32 ((s : Nat) : Int)) := ⟨_, rfl⟩
          rw [← hwq]
          have HR : Hid ((wq.heap[w.heap.size]? = some (.cells ((A.take (k + 1) ++ h.words.drop (k + 1)).map wV).toArray 205 (0, 0)) ∧ Below w.heap.size w wq) ∧ wq.heap[w.heap.size + 1 + 1]? = some (.cells (Array.replicate 8 (.int .u32 0)) 205 (0, 0)) ∧ wq.heap[w5.heap.size]? = some (.cells (v.words.map wV).toArray 205 (0, 0))) := Lib.hid (by
            rw [hwq]
            exact ⟨HAS.out, HO2.out, HOV.out⟩)
          clear hwq HAS HO2 HOV q0 s0 f0
          go_wp2
          go_roundw
          case rel => exact ⟨k + 1, by omega, by go_num, HR.out.1.1, HR.out.2.1, HR.out.2.2, HR.out.1.2⟩
          case measure => simp [intOf]; omega
        · obtain rfl : k = 8 := by omega
          have hA8 : A.take 8 ++ h.words.drop 8 = (blockH h b).words := by
            rw [HBH.out, HA.out, List.take_of_length_le (by rw [HAL.out]; exact Nat.le_refl _)]
            exact List.append_nil _
          rw [hA8] at hzr
          clear hA8 HBH
          obtain ⟨R, hR⟩ : ∃ R, blockH h b = R := ⟨_, rfl⟩
          rw [hR] at hzr
          have HR := Lib.hid hR
          clear hR
          have hone := one_map (f := wV) (fun _ => rfl) R.words
          have hsz : (Tryz.prog.info? 205).map (·.size) = some ((R.words.map wV).toArray).size := by kernel_rfl
          go_upto_region 24 with fail
          apply wp_region_lit
          refine wpList_load_row rfl 205 _ rfl w.heap.size rfl 205 _ _ _ hzr Tryz.underlying205 rfl hsz ?_
          refine wpList_store_row rfl 205 _ _ rfl (w.heap.size + 1 + 1) (R.words.map wV).toArray rfl (by as_aux_lemma => kernel_rfl) 205 _ hz2 hsz rfl hone ?_
          apply wpList_nil
          generalize hw2 : wr.setRow _ _ = w7
          have hz3 : w7.heap[w.heap.size + 1 + 1]? = some (.cells (R.words.map wV).toArray 205 (0, 0)) := by
            rw [← hw2]
            exact setRow_heap wr _ _ _ _ _ hz2
          have hb3 : Below w.heap.size w w7 := by
            rw [← hw2]
            exact below_setRow hBr (by omega) _
          clear hw2
          rename_i hK
          refine hK _ _ ?_
          apply wp_ret
          exact bodyPost_ret (v := .agg (R.words.map wV).toArray) (results_cell_row rfl _ _ (w.heap.size + 1 + 1) 205 _ _ _ (by as_aux_lemma => kernel_rfl) hz3 Tryz.underlying205 rfl hsz) rfl ⟨by rw [HR.out], hb3⟩
end Go.Proofs.YtaompdnnkfmjhaaGreatDoor

namespace Go.Proofs.YtaompdnnkfmjhaaGreatDoor
open Go.RowKit

/-- v is a row of the call's own with these cells; what is frozen in its block lies behind its room. -/
def RowM (w : World) (base : Nat) (e : TypeId) (v : Value) (xs : List Value) : Prop :=
  ∃ g cap cur lo hi, v = .slice (some ⟨g, 0, none⟩) xs.length cap ∧ base ≤ g ∧ w.heap[g]? = some (.cells cur e (lo, hi)) ∧ xs.length ≤ cap ∧ cap ≤ maxLen ∧ cur.size = cap ∧ cur.toList.take xs.length = xs ∧ (hi ≤ lo ∨ cap ≤ lo)

theorem RowM.of_own {w : World} {base B : Nat} {e : TypeId} {v : Value} {xs : List Value} (h : w.ownsRow B e 1 v xs.length xs) (h0 : 0 < xs.length) (hb : base ≤ B) : RowM w base e v xs := by
  rcases h.2 with ⟨-, hn⟩ | ⟨g, cap, cur, hv, hB, hh, hc, hm, hs, ht⟩
  · omega
  · exact ⟨g, cap, cur, 0, 0, hv, Nat.le_trans hb hB, hh, hc, hm, by omega, by simpa using ht, .inl (Nat.le_refl _)⟩
theorem RowM.below {w w' : World} {base : Nat} {e : TypeId} {v : Value} {xs : List Value} (h : RowM w base e v xs) (hb : Below w.heap.size w w') : RowM w' base e v xs := by
  obtain ⟨g, cap, cur, lo, hi, hv, hB, hh, h⟩ := h
  exact ⟨g, cap, cur, lo, hi, hv, hB, (hb.block g (heap_lt_of hh)).trans hh, h⟩
where
  heap_lt_of {w : World} {g : Nat} {o : Obj} (h : w.heap[g]? = some o) : g < w.heap.size := (Array.getElem?_eq_some_iff.1 h).1
theorem RowM.cell {w : World} {base g c : Nat} {e : TypeId} {n : Nat} {xs : List Value} (h : RowM w base e (.slice (some ⟨g, 0, none⟩) n c) xs) {j : Nat} {u : Value} (hj : xs[j]? = some u) : w.cell? ⟨g, j, none⟩ = some u := by
  obtain ⟨g', cap, cur, lo, hi, hv, hB, hh, hc, hm, hs, ht, hf⟩ := h
  cases hv
  have h1 : cur.toList[j]? = some u := by
    have : (cur.toList.take xs.length)[j]? = some u := by rw [ht]; exact hj
    rw [List.getElem?_take] at this
    split at this
    · exact this
    · cases this
  simp only [World.cell?, hh]
  simpa using h1
theorem RowM.kept {w w' : World} {base g c k n : Nat} {e : TypeId} {xs : List Value} (h : RowM w base e (.slice (some ⟨g, 0, none⟩) n c) xs) (hb : w.grownBy w' (some k)) (hk : g ≠ k) : RowM w' base e (.slice (some ⟨g, 0, none⟩) n c) xs := by
  obtain ⟨g', cap, cur, lo, hi, hv, hB, hh, hx⟩ := h
  cases hv
  exact ⟨g, c, cur, lo, hi, rfl, hB, (hb.block g (RowM.below.heap_lt_of hh) (fun e => hk (Option.some.inj e))).trans hh, hx⟩
theorem RowM.slice {w : World} {base : Nat} {e : TypeId} {v : Value} {xs : List Value} (h : RowM w base e v xs) : ∃ g c, v = .slice (some ⟨g, 0, none⟩) xs.length c ∧ base ≤ g ∧ g < w.heap.size ∧ xs.length ≤ c ∧ c ≤ maxLen := by
  obtain ⟨g, cap, cur, lo, hi, hv, hB, hh, hc, hm, -⟩ := h
  exact ⟨g, cap, hv, hB, (Array.getElem?_eq_some_iff.1 hh).1, hc, hm⟩

section
variable {P : Program}
theorem wpList_append_rowm (w : World) {ops : Array Oper} {rest : List Oper} {o : Oper} {a : Act} {Q : Exit → Act → World → Prop} (hg : o.guard = none) (s x : Operand) (t : TypeId)
    (ho : o.op = .call { callee := .builtin .append, args := #[s, x], argTypes := #[t, t] }) (e : TypeId) (i : TypeInfo) (z : Value) (bytes : Nat)
    (ht : P.underlying t = some (.slice e)) (hi : P.info? e = some i) (hz : i.zero = some z) (hsize : i.size = 1) (hby : i.bytes = bytes) (hzs : z.cells.size = 1)
    (base : Nat) (v : Value) (xs : List Value) (hv : a.eval s = v) (h : RowM w base e v xs) (ad : Addr) (m c : Nat) (us : List Value) (hx : a.eval x = .slice (some ad) m c) (hm : us.length = m) (hus : ∀ j u, us[j]? = some u → w.cell? (ad.add j) = some u) (h1 : ∀ u ∈ us, u.oneCell' = true)
    (b1 : xs.length + m ≤ maxLen) (b2 : (xs.length + m) * bytes ≤ 140737488355328) (hbase : base ≤ w.heap.size)
    (hK : ∀ v' w', RowM w' base e v' (xs ++ us) → Below base w w' → wpList P ops Q rest (a.put o.dst v') w') : wpList P ops Q (o :: rest) a w := by
  subst hm
  obtain ⟨g, cap, cur, lo, hi', rfl, hB, hh, hc, hmx, hs, htk, hf⟩ := h
  have hcell : ∀ j u, xs[j]? = some u → w.cell? ⟨g, 0 + j, none⟩ = some u := fun j u hj => by
    rw [Nat.zero_add]
    exact RowM.cell (base := base) (c := cap) ⟨g, cap, cur, lo, hi', rfl, hB, hh, hc, hmx, hs, htk, hf⟩ hj
  refine wpList_append_arg w hg s x t ho e i z 1 bytes ht hi hz hsize hby hzs (by decide) g 0 xs.length cap xs hv (by omega) hcell ad us.length c us hx (by omega) hus h1 ?_ b1 b2 ?_ ?_
  · intro hle j hj
    rw [Nat.zero_add, Nat.mul_one]
    constructor
    · simp only [World.cell?, hh]
      simp
      omega
    · simp only [World.frozen?, hh]
      rcases hf with hf | hf
      · simp; omega
      · simp; omega
  · intro hle
    rw [Nat.zero_add, Nat.mul_one]
    have hset : ∀ (us : List Value) (o : Nat) (cur : Array Value) (w : World), w.heap[g]? = some (.cells cur e (lo, hi')) → o + us.length ≤ cur.size → (w.setCells g o us).heap[g]? = some (.cells (cur.toList.take o ++ us ++ cur.toList.drop (o + us.length)).toArray e (lo, hi')) ∧ Below base w (w.setCells g o us) := by
      intro us
      induction us with
      | nil => intro o cur w hh _; exact ⟨by simpa [World.setCells] using hh, Below.refl _ _⟩
      | cons u us ih =>
        intro o cur w hh hl
        simp only [List.length_cons] at hl
        have h2 : (w.setCell ⟨g, o, none⟩ u).heap[g]? = some (.cells (cur.setIfInBounds o u) e (lo, hi')) := by
          rw [setCell_eq_setRow w g o cur e (lo, hi') u hh]
          exact setRow_heap w g cur _ e _ hh
        obtain ⟨i1, i2⟩ := ih (o + 1) (cur.setIfInBounds o u) _ h2 (by simp; omega)
        refine ⟨?_, ((Below.refl base w).setCell (p := ⟨g, o, none⟩) hB _).trans i2⟩
        rw [World.setCells, i1]
        congr 3
        apply List.ext_getElem?
        intro k
        simp only [Array.toList_setIfInBounds, List.getElem?_append, List.length_take, List.length_set, Array.length_toList, List.length_append, List.length_cons]
        by_cases hk : k < o
        · simp [hk, show k < o + 1 by omega, show min (o + 1) cur.size = o + 1 by omega, show min o cur.size = o by omega, show o ≠ k by omega, show k < o + (us.length + 1) by omega, show k < o + 1 + us.length by omega]
        · by_cases hk2 : k = o
          · subst hk2
            simp [show min (k + 1) cur.size = k + 1 by omega, show min k cur.size = k by omega, show k < k + (us.length + 1) by omega, show k < k + 1 + us.length by omega]
          · have e1 : min (o + 1) cur.size = o + 1 := by omega
            have e2 : min o cur.size = o := by omega
            simp only [e1, e2, hk, if_false, show ¬ k < o + 1 by omega]
            by_cases hk3 : k < o + (us.length + 1)
            · rw [if_pos (by omega), if_pos hk3, show k - o = (k - (o + 1)) + 1 by omega, List.getElem?_cons_succ]
            · rw [if_neg (by omega), if_neg hk3, List.getElem?_drop, List.getElem?_drop, List.getElem?_set_ne (by omega)]
              congr 1
              omega
    obtain ⟨h2, h3⟩ := hset us xs.length cur w hh (by omega)
    have hK' := hK (.slice (some ⟨g, 0, none⟩) (xs.length + us.length) cap) (w.setCells g xs.length us) ⟨g, cap, _, lo, hi', by rw [List.length_append], hB, h2, by rw [List.length_append]; omega, hmx, by simp; omega, by
      rw [htk, List.length_append, List.append_assoc]
      rw [List.take_append, List.take_of_length_le (by omega), show xs.length + us.length - xs.length = us.length by omega, List.take_left], hf⟩ h3
    simpa using hK'
  · intro hlt v' w' hown hgrow
    by_cases h0 : 0 < (xs ++ us).length
    · exact hK v' w' (RowM.of_own (by rw [List.length_append]; exact hown) h0 hbase) ((Below.refl base w).grown hgrow hbase (fun j hj => by cases hj))
    · rw [List.length_append] at h0
      omega
end

/-- a text's bytes as a row. -/
theorem conv_row {P : Program} (w : World) (src dst e : TypeId) (l : List UInt8) {u : TypeDesc} (hl : l.length ≤ 1100000) (hs : P.underlying src = some u) (hd : P.underlying dst = some (.slice e)) (he : P.underlying e = some (.int .u8)) :
    ∃ v w', (convert src dst (S l)).run P w = .ok v w' ∧ RowM w' w.heap.size e v (Lib.byteCells l) ∧ Below w.heap.size w w' := by
  refine ⟨_, _, Lib.run_convert_string_bytes w src dst e ⟨l.toArray⟩ hs hd he, ?_, ?_⟩
  · have hsz : (⟨l.toArray⟩ : ByteArray).size = l.length := by simp [ByteArray.size]
    have hge := grownCap_ge w (⟨l.toArray⟩ : ByteArray).size 0 e
    have hle := grownCap_le_maxLen w (⟨l.toArray⟩ : ByteArray).size 0 e (by rw [hsz]; unfold maxLen; omega)
    have hbl : (Lib.byteCells l).length = l.length := by simp [Lib.byteCells]
    have hcs : (Lib.bytesCells w e ⟨l.toArray⟩).size = grownCap w (⟨l.toArray⟩ : ByteArray).size 0 e := by
      simp only [Lib.bytesCells, Array.size_append, Array.size_map, Array.size_replicate]
      rw [hsz] at hge ⊢
      rw [List.size_toArray]
      omega
    refine ⟨w.heap.size, _, _, _, _, by rw [hbl, hsz], Nat.le_refl _, Lib.bytesWorld_at_new w e _, by rw [hbl]; omega, hle, hcs, ?_, .inr (by rw [hcs]; exact Nat.le_refl _)⟩
    simp only [Lib.bytesCells, Array.toList_append, Array.toList_map]
    rw [List.take_append_of_le_length (by simp [Lib.byteCells])]
    rw [List.take_of_length_le (by simp [Lib.byteCells])]
    rfl
  · refine ⟨?_, ?_, ?_, ?_, fun k hk => Lib.bytesWorld_at_old w e _ k hk⟩
    · simp [Lib.bytesWorld, World.freeze, World.alloc, World.drew, -World.alloc_eq, -World.drew_eq]
    · simp [Lib.bytesWorld, World.freeze, World.alloc, World.drew, -World.alloc_eq, -World.drew_eq]
    · simp [Lib.bytesWorld, World.freeze, World.alloc, World.drew, -World.alloc_eq, -World.drew_eq]
    · rw [Lib.bytesWorld_size]; omega
end Go.Proofs.YtaompdnnkfmjhaaGreatDoor
