/- The program's block of a sum. The program's feeder of a sum. -/
import Derived.Test.YtkejdbidomlonaaGreatDoorJPSha
import Derived.Test.YtkejdbidomlonaaGreatDoorJObjAt
namespace Go.Proofs.YtkejdbidomlonaaGreatDoor
open Go.RowKit

theorem H8.cells (v : H8) : (v.words.map wV).toArray = #[wV v.a, wV v.b, wV v.c, wV v.d, wV v.e, wV v.f, wV v.g, wV v.h] := rfl

set_option maxHeartbeats 8000000 in
set_option maxRecDepth 100000 in
theorem block_walk (h : H8) (hh : h.ok) (b : List UInt8) (hl : b.length = 64) (w : World) :
    Calls Tryz.prog 147 #[.agg (h.words.map wV).toArray, .agg (b.map bV).toArray] w fun e w' => e = .returned (.agg ((blockH h b).words.map wV).toArray) ∧ Below w.heap.size w w' := by
  obtain ⟨w1, hw1, hb1, hz0, hz1, hz2⟩ : ∃ w1, w1 = ((w.alloc (.cells (h.words.map wV).toArray 93)).alloc (.cells (b.map bV).toArray 95)).alloc (.cells (Array.replicate 8 (.int .u32 0)) 93) ∧ Below w.heap.size w w1 ∧ w1.heap[w.heap.size]? = some (.cells (h.words.map wV).toArray 93 (0, 0)) ∧ w1.heap[w.heap.size + 1]? = some (.cells (b.map bV).toArray 95 (0, 0)) ∧ w1.heap[w.heap.size + 1 + 1]? = some (.cells (Array.replicate 8 (.int .u32 0)) 93 (0, 0)) := by
    refine ⟨_, rfl, (((Below.refl _ _).alloc (Nat.le_refl _) _).alloc (by simp) _).alloc (by simp; omega) _, ?_, ?_, ?_⟩
    · rw [Below.heap_alloc _ _ _ (by simp; omega)]
      exact heap_alloc2_old _ _ _
    · rw [Below.heap_alloc _ _ _ (by simp)]
      exact heap_alloc2_new _ _ _
    · have := heap_alloc_new ((w.alloc (.cells (h.words.map wV).toArray 93)).alloc (.cells (b.map bV).toArray 95)) (.cells (Array.replicate 8 (.int .u32 0)) 93)
      simpa using this
  have CK := const_walk w1
  have CS := fun W => schedule_walk b hl W
  have hsz : (Tryz.prog.info? 95).map (·.size) = some (b.map bV).toArray.size := by
    simp only [List.size_toArray, List.length_map, hl]
    kernel_rfl
  go_enter Tryz.func147, Tryz.ntmps147
  go_upto_region 1 with fail
  generalize hww : World.alloc _ _ = w1'
  obtain rfl : w1' = w1 := by rw [← hww, hw1]; rfl
  clear hww hw1
  go_wp2_with fail
  refine CK.mono ?_
  rintro e w2 ⟨rfl, hb2⟩
  have hB2 := below_chain hb1 hb2 hb1.size
  have y0 := (hb2.block _ (heap_lt hz0)).trans hz0
  have y1 := (hb2.block _ (heap_lt hz1)).trans hz1
  have y2 := (hb2.block _ (heap_lt hz2)).trans hz2
  clear CK hz0 hz1 hz2
  have hks : (Tryz.prog.info? 123).map (·.size) = some ((kSha.map wV).toArray).size := by kernel_rfl
  have hk1 := one_map (f := wV) (fun _ => rfl) kSha
  go_wp2_with (refine wpList_store_row rfl 123 _ _ rfl w2.heap.size (kSha.map wV).toArray rfl rfl 123 _ (heap_alloc_new _ _) hks rfl hk1 ?_; simp only [Act.put])
  have hg2 : w.heap.size + 1 + 1 < w2.heap.size := heap_lt y2
  generalize hw3 : World.setRow _ _ _ = w3
  have x0 : w3.heap[w.heap.size]? = some (.cells (h.words.map wV).toArray 93 (0, 0)) := by
    rw [← hw3, setRow_other _ _ _ _ (by omega), Below.heap_alloc _ _ _ (by omega)]
    exact y0
  have x1 : w3.heap[w.heap.size + 1]? = some (.cells (b.map bV).toArray 95 (0, 0)) := by
    rw [← hw3, setRow_other _ _ _ _ (by omega), Below.heap_alloc _ _ _ (by omega)]
    exact y1
  have x2 : w3.heap[w.heap.size + 1 + 1]? = some (.cells (Array.replicate 8 (.int .u32 0)) 93 (0, 0)) := by
    rw [← hw3, setRow_other _ _ _ _ (by omega), Below.heap_alloc _ _ _ (by omega)]
    exact y2
  have xk : w3.heap[w2.heap.size]? = some (.cells (kSha.map wV).toArray 123 (0, 0)) := by
    rw [← hw3]
    exact setRow_heap _ _ _ _ _ _ (heap_alloc_new _ _)
  have hB3 : Below w.heap.size w w3 := by
    rw [← hw3]
    exact below_setRow (hB2.alloc hB2.size _) (by omega) _
  clear hw3 y0 y1 y2 hks hk1 hB2 hb2 hb1
  have c0 := LaterOf.cell (arr_cell x0 (i := 0) (v := .int .u32 (h.a : Nat)) rfl)
  have c1 := LaterOf.cell (arr_cell x0 (i := 1) (v := .int .u32 (h.b : Nat)) rfl)
  have c2 := LaterOf.cell (arr_cell x0 (i := 2) (v := .int .u32 (h.c : Nat)) rfl)
  have c3 := LaterOf.cell (arr_cell x0 (i := 3) (v := .int .u32 (h.d : Nat)) rfl)
  have c4 := LaterOf.cell (arr_cell x0 (i := 4) (v := .int .u32 (h.e : Nat)) rfl)
  have c5 := LaterOf.cell (arr_cell x0 (i := 5) (v := .int .u32 (h.f : Nat)) rfl)
  have c6 := LaterOf.cell (arr_cell x0 (i := 6) (v := .int .u32 (h.g : Nat)) rfl)
  have c7 := LaterOf.cell (arr_cell x0 (i := 7) (v := .int .u32 (h.h : Nat)) rfl)
  have X0 := Lib.hid x0
  have X1 := Lib.hid x1
  have X2 := Lib.hid x2
  have XK := Lib.hid xk
  have HSZ := Lib.hid hsz
  clear x0 x1 x2 xk hsz
  (refine wp_region_later (by kernel_rfl) (by kernel_rfl) ?_; (repeat (go_big_quiet_step (fail))); refine wpQuiet_nil ?_; intro _ hw1; obtain ⟨lw, hw2⟩ := hw1; subst hw2)
  have hB4 := below_chain hB3 lw.below hB3.size
  have x0 := (lw.below.block _ (heap_lt X0.out)).trans X0.out
  have x1 := (lw.below.block _ (heap_lt X1.out)).trans X1.out
  have x2 := (lw.below.block _ (heap_lt X2.out)).trans X2.out
  have xk := (lw.below.block _ (heap_lt XK.out)).trans XK.out
  have hsz := HSZ.out
  clear X0 X1 X2 XK HSZ
  clear c0 c1 c2 c3 c4 c5 c6 c7 hB3
  generalize lw.world = w4 at *
  go_upto_region 3 with fail
  apply wp_region_lit
  refine wpList_load_row rfl 95 _ rfl (w.heap.size + 1) rfl 95 _ _ _ x1 Tryz.underlying95 rfl hsz ?_
  have CS4 := CS w4
  clear CS
  go_wp2_with fail
  refine CS4.mono ?_
  rintro e w5 ⟨rfl, hb5⟩
  have hB5 := below_chain hB4 hb5 hB4.size
  have z0 := (hb5.block _ (heap_lt x0)).trans x0
  have z2 := (hb5.block _ (heap_lt x2)).trans x2
  have zk := (hb5.block _ (heap_lt xk)).trans xk
  clear x0 x1 x2 xk hB4 hb5 CS4
  go_wp2
  have hsl := schedW_len b
  have hs32 := schedW_32 b
  have HBH := Lib.hid (show blockH h b = addH h (runH h (schedW b) 64) from rfl)
  generalize schedW b = ws at *
  clear hsz lw
  have HSL := Lib.hid hsl
  have HS32 := Lib.hid hs32
  have Z0 := Lib.hid z0
  have Z2 := Lib.hid z2
  have ZK := Lib.hid zk
  clear hsl hs32 z0 z2 zk
  go_loopw [39, 6, 7, 8, 9, 10, 11, 12, 13] (fun i a1 a2 a3 a4 a5 a6 a7 a8 wr => ∃ (k : Nat) (v : H8), k ≤ 64 ∧ i = .int .i64 k ∧ v = runH h ws k ∧ a1 = .int .u32 (v.a : Nat) ∧ a2 = .int .u32 (v.b : Nat) ∧ a3 = .int .u32 (v.c : Nat) ∧ a4 = .int .u32 (v.d : Nat) ∧ a5 = .int .u32 (v.e : Nat) ∧ a6 = .int .u32 (v.f : Nat) ∧ a7 = .int .u32 (v.g : Nat) ∧ a8 = .int .u32 (v.h : Nat) ∧ Below w5.heap.size w5 wr) (fun i _ _ _ _ _ _ _ _ _ => 64 - (intOf i).toNat)
  case atStart => exact ⟨0, h, Nat.zero_le _, rfl, rfl, rfl, rfl, rfl, rfl, rfl, rfl, rfl, rfl, Below.refl _ _⟩
  case round =>
    obtain ⟨k, v, hk, rfl, hv, rfl, rfl, rfl, rfl, rfl, rfl, rfl, rfl, hbr⟩ := hrel
    have hvo : v.ok := hv ▸ runH_ok hh ws k
    have HV := Lib.hid hv
    clear hv
    by_cases h1 : k < 64
    · have h1' : (k : Int) < 64 := by omega
      have hix : ∀ W : World, (Instr.index 123 (.agg (ws.map wV).toArray) (.int .i64 k)).run Tryz.prog W = .ok (.int .u32 ((ws[k]'(by have := HSL.out; omega) : Nat) : Int)) W :=
        run_index_agg 123 91 64 k _ _ _ Tryz.underlying123 Tryz.underlying91 rfl (by kernel_rfl) h1 (map_at (by have := HSL.out; omega))
      have hkl : k < kSha.length := h1
      have ck := LaterOf.cell (arr_cell ((hbr.block _ (heap_lt ZK.out)).trans ZK.out) (map_at (f := wV) hkl))
      unfold wV at ck
      have HST := Lib.hid (show runH h ws (k + 1) = stepH (runH h ws k) (kSha.getD k 0) (ws.getD k 0) from rfl)
      rw [getD_nat hkl, getD_nat (ws := ws) (i := k) (by have := HSL.out; omega), ← HV.out] at HST
      have hkk : kSha[k] < 4294967296 := (show W32 kSha by unfold W32; decide) _ (List.getElem_mem _)
      have hww := HS32.out.at (i := k) (by have := HSL.out; omega)
      generalize kSha[k] = kk at *
      generalize ws[k]'(by have := HSL.out; omega) = ww at *
      clear hkl
      obtain ⟨a, b0, c, d, e, f, g, h0⟩ := v
      obtain ⟨ha, hb, hc, hd, he, hf, hg, hh0⟩ := hvo
      simp only at ha hb hc hd he hf hg hh0
      simp only
      have D1 : ∀ W : World, Calls Tryz.prog 161 #[.int .u32 e, .int .i64 6] W fun r w' => r = .returned (.int .u32 (rotN 6 e : Nat)) ∧ w' = W := fun W => down_walk e 6 W he (by decide) (by decide)
      have D2 : ∀ W : World, Calls Tryz.prog 161 #[.int .u32 e, .int .i64 11] W fun r w' => r = .returned (.int .u32 (rotN 11 e : Nat)) ∧ w' = W := fun W => down_walk e 11 W he (by decide) (by decide)
      have D3 : ∀ W : World, Calls Tryz.prog 161 #[.int .u32 e, .int .i64 25] W fun r w' => r = .returned (.int .u32 (rotN 25 e : Nat)) ∧ w' = W := fun W => down_walk e 25 W he (by decide) (by decide)
      have E1 : ∀ W : World, Calls Tryz.prog 161 #[.int .u32 a, .int .i64 2] W fun r w' => r = .returned (.int .u32 (rotN 2 a : Nat)) ∧ w' = W := fun W => down_walk a 2 W ha (by decide) (by decide)
      have E2 : ∀ W : World, Calls Tryz.prog 161 #[.int .u32 a, .int .i64 13] W fun r w' => r = .returned (.int .u32 (rotN 13 a : Nat)) ∧ w' = W := fun W => down_walk a 13 W ha (by decide) (by decide)
      have E3 : ∀ W : World, Calls Tryz.prog 161 #[.int .u32 a, .int .i64 22] W fun r w' => r = .returned (.int .u32 (rotN 22 a : Nat)) ∧ w' = W := fun W => down_walk a 22 W ha (by decide) (by decide)
      have HBR := Lib.hid hbr
      clear hbr
      go_upto_region 6 with fail
      (refine wp_region_later (by kernel_rfl) (by kernel_rfl) ?_; (repeat (go_big_quiet_step (first | (go_at_call 161; with_reducible exact LaterOf.still _ (D1 _)) | (go_at_call 161; with_reducible exact LaterOf.still _ (D2 _)) | (go_at_call 161; with_reducible exact LaterOf.still _ (D3 _))))); refine wpQuiet_nil ?_; intro _ hw1; obtain ⟨lw, hw2⟩ := hw1; subst hw2)
      have HBL := Lib.hid (below_chain HBR.out lw.below HBR.out.size)
      generalize lw.world = w6 at *
      go_wp2_with (first | (go_at_call 161; (with_reducible refine (E1 _).mono ?_); rintro r wz ⟨rfl, rfl⟩) | (go_at_call 161; (with_reducible refine (E2 _).mono ?_); rintro r wz ⟨rfl, rfl⟩) | (go_at_call 161; (with_reducible refine (E3 _).mono ?_); rintro r wz ⟨rfl, rfl⟩))
      go_roundw
      case rel =>
        rw [bsE_val he, chP_val he hf hg, bsA_val ha, majP_val ha hb hc]
        exact ⟨k + 1, stepH ⟨a, b0, c, d, e, f, g, h0⟩ kk ww, by omega, by go_num, by rw [HST.out], congrArg (Value.int IntKind.u32) stepH_a, rfl, rfl, rfl, congrArg (Value.int IntKind.u32) stepH_e, rfl, rfl, rfl, HBL.out⟩
      case measure => simp [intOf]; omega
    · obtain rfl : k = 64 := by omega
      have hB := below_chain hB5 hbr hB5.size
      have z0 := (hbr.block _ (heap_lt Z0.out)).trans Z0.out
      have z2 := (hbr.block _ (heap_lt Z2.out)).trans Z2.out
      rw [← HV.out] at HBH
      obtain ⟨A, hA⟩ : ∃ A, (addH h v).words = A := ⟨_, rfl⟩
      have hAl : A.length = h.words.length := by rw [← hA]; rfl
      have HAT := Lib.hid (fun (j : Nat) (hj : j < 8) => addH_at h v hj)
      have HA := Lib.hid hA
      have HAL := Lib.hid hAl
      have HVO := Lib.hid hvo
      have Z2' := Lib.hid z2
      have z0' : wr.heap[w.heap.size]? = some (.cells ((A.take 0 ++ h.words.drop 0).map wV).toArray 93 (0, 0)) := z0
      obtain ⟨w6, rfl⟩ : ∃ w6 : World, w6 = wr := ⟨_, rfl⟩
      rw [show ((64 : Nat) : Int) = 64 from rfl]
      clear hA hAl hvo z0 z2 hk h1 hbr Z0 Z2 ZK HSL HS32 HV
      go_wp2
      go_loopw [107] (fun i wr => ∃ k : Nat, k ≤ 8 ∧ i = .int .i64 k ∧ wr.heap[w.heap.size]? = some (.cells ((A.take k ++ h.words.drop k).map wV).toArray 93 (0, 0)) ∧ wr.heap[w.heap.size + 1 + 1]? = some (.cells (Array.replicate 8 (.int .u32 0)) 93 (0, 0)) ∧ Below w.heap.size w wr) (fun i _ => 8 - (intOf i).toNat)
      case atStart => exact ⟨0, Nat.zero_le _, rfl, z0', Z2'.out, hB⟩
      case round =>
        obtain ⟨k, hk, rfl, hzr, hz2, hBr⟩ := hrel
        by_cases h1 : k < 8
        · have h1' : (k : Int) < 8 := by omega
          have hix : ∀ W : World, (Instr.index 92 (.agg #[.int .u32 (v.a : Nat), .int .u32 (v.b : Nat), .int .u32 (v.c : Nat), .int .u32 (v.d : Nat), .int .u32 (v.e : Nat), .int .u32 (v.f : Nat), .int .u32 (v.g : Nat), .int .u32 (v.h : Nat)]) (.int .i64 k)).run Tryz.prog W = .ok (.int .u32 ((v.words[k]'h1 : Nat) : Int)) W :=
            run_index_agg 92 91 8 k (v.words.map wV).toArray _ _ Tryz.underlying92 Tryz.underlying91 rfl (by kernel_rfl) h1 (map_at (f := wV) (l := v.words) h1)
          have hkl : k < h.words.length := h1
          have hc := arr_cell hzr (v := wV h.words[k]) (by rw [List.getElem?_toArray, List.getElem?_map, mix_at hkl HAL.out]; rfl)
          unfold wV at hc
          have hs := is_some hc
          have hf := arr_frozen (i := k) hzr
          have hkA : k < A.length := by rw [HAL.out]; exact h1
          have e1 : A[k] = (h.words[k] + v.words[k]'h1) % 4294967296 := by
            have := HAT.out k h1
            simp only [HA.out] at this
            exact this
          have HAS := Lib.hid (arr_set (i := k) (x := A[k]) hzr hBr (Nat.le_refl _))
          rw [mix_set hkA HAL.out] at HAS
          have hxw := hh.words.at hkl
          have hyw := HVO.out.words.at (i := k) h1
          have HEQ : Hid (Value.int IntKind.u32 (((h.words[k] : Nat) + ((v.words[k]'h1 : Nat) : Int)) % 4294967296) = wV A[k]) := Lib.hid (by
            rw [e1]
            exact congrArg (Value.int IntKind.u32) (by omega))
          have HZ2 := Lib.hid ((heap_setCell_other wr ⟨w.heap.size, k, none⟩ (w.heap.size + 1 + 1) (wV A[k]) (by simp only; omega)).trans hz2)
          have hk8 : k < 8 := h1
          clear e1 hzr hz2 hBr
          generalize h.words[k] = x at *
          generalize v.words[k]'hk8 = y at *
          generalize A[k] = s at *
          clear hkl hkA
          go_wp2
          go_roundw
          case rel =>
            rw [HEQ.out]
            exact ⟨k + 1, by omega, by go_num, HAS.out.1, HZ2.out, HAS.out.2⟩
          case measure => simp [intOf]; omega
        · obtain rfl : k = 8 := by omega
          have hA8 : A.take 8 ++ h.words.drop 8 = (blockH h b).words := by
            rw [HBH.out, HA.out, List.take_of_length_le (by rw [HAL.out]; exact Nat.le_refl _)]
            exact List.append_nil _
          rw [hA8] at hzr
          clear hA8 HBH
          obtain ⟨R, hR⟩ : ∃ R, blockH h b = R := ⟨_, rfl⟩
          rw [hR] at hzr
          have HR := Lib.hid hR
          clear hR
          have hone := one_map (f := wV) (fun _ => rfl) R.words
          have hsz : (Tryz.prog.info? 93).map (·.size) = some ((R.words.map wV).toArray).size := by kernel_rfl
          go_upto_region 15 with fail
          apply wp_region_lit
          refine wpList_load_row rfl 93 _ rfl w.heap.size rfl 93 _ _ _ hzr Tryz.underlying93 rfl hsz ?_
          refine wpList_store_row rfl 93 _ _ rfl (w.heap.size + 1 + 1) (R.words.map wV).toArray rfl (by as_aux_lemma => kernel_rfl) 93 _ hz2 hsz rfl hone ?_
          apply wpList_nil
          generalize hw2 : wr.setRow _ _ = w7
          have hz3 : w7.heap[w.heap.size + 1 + 1]? = some (.cells (R.words.map wV).toArray 93 (0, 0)) := by
            rw [← hw2]
            exact setRow_heap wr _ _ _ _ _ hz2
          have hb3 : Below w.heap.size w w7 := by
            rw [← hw2]
            exact below_setRow hBr (by omega) _
          clear hw2
          rename_i hK
          refine hK _ _ ?_
          apply wp_ret
          exact bodyPost_ret (v := .agg (R.words.map wV).toArray) (results_cell_row rfl _ _ (w.heap.size + 1 + 1) 93 _ _ _ (by as_aux_lemma => kernel_rfl) hz3 Tryz.underlying93 rfl hsz) rfl ⟨by rw [HR.out], hb3⟩
end Go.Proofs.YtkejdbidomlonaaGreatDoor

namespace Go.Proofs.YtkejdbidomlonaaGreatDoor
open Go.RowKit

/-- a feeder's cells. -/
def feedC (v : H8) (n : Nat) (part : List UInt8) : List Value := v.words.map wV ++ (.int .u64 n :: part.map bV)
theorem feedC_len (v : H8) (n : Nat) (part : List UInt8) : (feedC v n part).length = 9 + part.length := by simp [feedC, H8.words]; omega

set_option maxHeartbeats 4000000 in
set_option maxRecDepth 100000 in
theorem take_walk (v : H8) (hv : v.ok) (n : Nat) (part : List UInt8) (hp : part.length = 64) (g : Nat) (w : World) (hg : w.heap[g]? = some (.cells (feedC v n part).toArray 147 (0, 0))) :
    Calls Tryz.prog 124 #[.pointer (some ⟨g, 0, none⟩), .agg (part.map bV).toArray] w fun e w' => e = .returned (.tuple #[]) ∧ w'.heap[g]? = some (.cells (feedC (blockH v part) n part).toArray 147 (0, 0)) ∧ Gro g w w' := by
  have hlt := heap_lt hg
  obtain ⟨w1, hw1, hb1, hz⟩ : ∃ w1, w1 = w.alloc (.cells (part.map bV).toArray 95) ∧ Below w.heap.size w w1 ∧ w1.heap[w.heap.size]? = some (.cells (part.map bV).toArray 95 (0, 0)) :=
    ⟨_, rfl, (Below.refl _ _).alloc (Nat.le_refl _) _, heap_alloc_new _ _⟩
  have hg1 := (hb1.block g hlt).trans hg
  have CB := fun W => block_walk v hv part hp W
  have c0 := fun i u (h : (v.words.map wV)[i]? = some u) => LaterOf.cell (arr_cell hg1 (i := i) (v := u) (by
    have hi : i < (v.words.map wV).length := (List.getElem?_eq_some_iff.1 h).1
    rw [List.getElem?_toArray, feedC, List.getElem?_append_left hi]; exact h))
  have hl1 : ∀ p : LaterOf w1, (loadVar 93 ⟨g, 0, none⟩).run Tryz.prog p.world = .ok (.agg (v.words.map wV).toArray) p.world := fun p =>
    run_load_part p.world g 0 _ _ _ (fun j u h => by rw [Nat.zero_add]; exact c0 j u h p) Tryz.underlying93 rfl (by kernel_rfl)
  have hl2 : ∀ p : LaterOf w1, (loadVar 95 ⟨w.heap.size, 0, none⟩).run Tryz.prog p.world = .ok (.agg (part.map bV).toArray) p.world := fun p =>
    run_load_part p.world _ 0 _ _ _ (fun j u h => by rw [Nat.zero_add]; exact LaterOf.cell (arr_cell hz (by simpa using h)) p) Tryz.underlying95 rfl (by simp only [List.length_map, hp]; kernel_rfl)
  have HZ := Lib.hid hz
  have HG1 := Lib.hid hg1
  clear c0 hz hg1 hg
  go_enter Tryz.func124, Tryz.ntmps124
  go_upto_region 1 with fail
  rw [← hw1]
  clear hw1
  (refine wp_tail_quick 9 1 rfl (by kernel_rfl) (by kernel_rfl) (by kernel_rfl) (by kernel_rfl) ?_; simp only [List.take_succ_cons, List.take_zero]; (repeat (first | go_big_quiet_step ((go_at_call 147; exact LaterOf.call _ (CB _))) | (first | (refine wpQuiet_load rfl 93 _ rfl ⟨g, 0, none⟩ rfl _ (fun _ hp => by obtain ⟨p, hp2⟩ := hp; subst hp2; exact hl1 p) ?_) | (refine wpQuiet_load rfl 95 _ rfl ⟨w.heap.size, 0, none⟩ rfl _ (fun _ hp => by obtain ⟨p, hp2⟩ := hp; subst hp2; exact hl2 p) ?_); go_simp))); refine wpQuiet_nil ?_; first | (intro _ hw1; obtain ⟨lw, hw2⟩ := hw1; subst hw2) | intro lw)
  have hg2 := (lw.below.block g (heap_lt HG1.out)).trans HG1.out
  have hst := run_store_head (P := Tryz.prog) lw.world g 147 (feedC v n part) ((blockH v part).words.map wV) hg2 (by rw [feedC_len]; simp only [List.length_map, H8.words, List.length_cons, List.length_nil]; omega) (fun x hx => by
    obtain ⟨y, -, rfl⟩ := List.mem_map.1 hx
    rfl)
  have hcs : (blockH v part).words.map wV ++ (feedC v n part).drop ((blockH v part).words.map wV).length = feedC (blockH v part) n part := rfl
  rw [hcs] at hst
  have h8 : (blockH v part).words.length = 8 := rfl
  have HG3 := Lib.hid (setRow_heap lw.world g _ (feedC (blockH v part) n part).toArray _ _ hg2)
  have HGR : Hid (Gro g w (lw.world.setRow g (feedC (blockH v part) n part).toArray)) := Lib.hid (by
    have h1 := below_chain hb1 lw.below hb1.size
    exact World.grownBy.trans (gro_of h1) ⟨rfl, rfl, rfl, by simp, fun k hk hne => setRow_other _ _ _ _ (fun e => hne (by rw [e]))⟩)
  clear hcs hg2 hl1 hl2 CB
  (refine wpAny_ready (rs := [9]) (by kernel_rfl) (by simp) ?_; refine AllReady.cons rfl (fun K hK => ?_) AllReady.nil; go_simp; refine hK _ _ ?_; clear hK K)
  refine wpAny_done (by kernel_rfl) ?_ _
  go_end0
  exact ⟨rfl, HG3.out, HGR.out⟩

/-- the feeder at block g had the bytes xs. -/
def IsFeed (w : World) (g : Nat) (xs : List UInt8) : Prop :=
  ∃ part : List UInt8, part.length = 64 ∧ part.take (xs.length % 64) = xs.drop (64 * (xs.length / 64)) ∧ w.heap[g]? = some (.cells (feedC (feedH xs) xs.length part).toArray 147 (0, 0))

theorem feedC_part (v : H8) (n : Nat) (part : List UInt8) {j : Nat} (h : j < part.length) : (feedC v n part)[9 + j]? = some (bV part[j]) := by
  rw [feedC, List.getElem?_append_right (by simp [H8.words]; omega), show 9 + j - (v.words.map wV).length = j + 1 by simp [H8.words]; omega, List.getElem?_cons_succ, List.getElem?_map, List.getElem?_eq_getElem h]
  rfl
theorem feedC_set (v : H8) (n : Nat) (part : List UInt8) (j : Nat) (c : UInt8) : (feedC v n part).set (9 + j) (bV c) = feedC v n (part.set j c) := by
  rw [feedC, List.set_append_right _ _ (by simp [H8.words]; omega), show 9 + j - (v.words.map wV).length = j + 1 by simp [H8.words]; omega, List.set_cons_succ, ← List.map_set]
  rfl
theorem feedC_size (v : H8) (n m : Nat) (part : List UInt8) : (feedC v n part).set 8 (.int .u64 m) = feedC v m part := rfl

theorem tail_snoc {xs part : List UInt8} {c : UInt8} (hp : part.length = 64) (ht : part.take (xs.length % 64) = xs.drop (64 * (xs.length / 64))) (hn : ¬ xs.length % 64 = 63) :
    (part.set (xs.length % 64) c).take ((xs ++ [c]).length % 64) = (xs ++ [c]).drop (64 * ((xs ++ [c]).length / 64)) := by
  rw [List.length_append, List.length_singleton, show (xs.length + 1) % 64 = xs.length % 64 + 1 by omega, show (xs.length + 1) / 64 = xs.length / 64 by omega, List.drop_append_of_le_length (by omega), ← ht, List.take_succ_eq_append_getElem (by rw [List.length_set]; omega), List.getElem_set_self, List.take_set_of_le (Nat.le_refl _)]
theorem full_snoc {xs part : List UInt8} {c : UInt8} (hp : part.length = 64) (ht : part.take (xs.length % 64) = xs.drop (64 * (xs.length / 64))) (hn : xs.length % 64 = 63) :
    part.set (xs.length % 64) c = xs.drop (64 * (xs.length / 64)) ++ [c] := by
  rw [← ht, hn]
  have h2 : (part.set 63 c).length = 64 := by rw [List.length_set, hp]
  rw [← List.take_of_length_le (Nat.le_of_eq h2), show 64 = 63 + 1 from rfl, List.take_succ_eq_append_getElem (by omega), List.getElem_set_self, List.take_set_of_le (Nat.le_refl _)]
theorem feed_tail {w : World} {g : Nat} {ys part : List UInt8} {c : UInt8} (hp : part.length = 64) (ht : part.take (ys.length % 64) = ys.drop (64 * (ys.length / 64))) (hn : ¬ ys.length % 64 = 63)
    (h : w.heap[g]? = some (.cells (feedC (feedH ys) (ys.length + 1) (part.set (ys.length % 64) c)).toArray 147 (0, 0))) : IsFeed w g (ys ++ [c]) := by
  refine ⟨part.set (ys.length % 64) c, by rw [List.length_set, hp], tail_snoc hp ht hn, ?_⟩
  rw [feedH_snoc, if_neg hn, List.length_append, List.length_singleton]
  exact h
theorem feed_full {w : World} {g : Nat} {ys part : List UInt8} {c : UInt8} (hp : part.length = 64) (ht : part.take (ys.length % 64) = ys.drop (64 * (ys.length / 64))) (hn : ys.length % 64 = 63)
    (h : w.heap[g]? = some (.cells (feedC (blockH (feedH ys) (part.set (ys.length % 64) c)) (ys.length + 1) (part.set (ys.length % 64) c)).toArray 147 (0, 0))) : IsFeed w g (ys ++ [c]) := by
  refine ⟨part.set (ys.length % 64) c, by rw [List.length_set, hp], ?_, ?_⟩
  · rw [List.length_append, List.length_singleton, show (ys.length + 1) % 64 = 0 by omega, List.take_zero, List.drop_eq_nil_of_le (by rw [List.length_append, List.length_singleton]; omega)]
  · rw [feedH_snoc, if_pos hn, List.length_append, List.length_singleton, ← full_snoc hp ht hn]
    exact h

set_option maxHeartbeats 4000000 in
set_option maxRecDepth 100000 in
theorem feed_walk (g : Nat) (xs s : List UInt8) (w : World) (h : IsFeed w g xs) (hs : xs.length + s.length ≤ 100000000) :
    Calls Tryz.prog 88 #[.pointer (some ⟨g, 0, none⟩), S s] w fun e w' => e = .returned (.tuple #[]) ∧ IsFeed w' g (xs ++ s) ∧ Gro g w w' := by
  have H := Lib.hid h
  clear h
  go_enter Tryz.func88, Tryz.ntmps88
  go_wp2
  go_loopw [8, 4, 5] (fun i _ _ wr => ∃ k : Nat, k ≤ s.length ∧ i = .int .i64 k ∧ IsFeed wr g (xs ++ s.take k) ∧ Gro g w wr) (fun i _ _ _ => s.length - (intOf i).toNat)
  case atStart => exact ⟨0, Nat.zero_le _, rfl, by rw [List.take_zero, List.append_nil]; exact H.out, gro_of (Below.refl _ _)⟩
  case round =>
    obtain ⟨k, hk, rfl, hf, hG⟩ := hrel
    by_cases h1 : k < s.length
    · have h1' : (k : Int) < (s.length : Int) := by omega
      have HT := Lib.hid (show (xs ++ s.take k) ++ [s[k]] = xs ++ s.take (k + 1) by rw [List.take_succ_eq_append_getElem h1, List.append_assoc])
      have hyl : (xs ++ s.take k).length ≤ 100000000 := by rw [List.length_append, List.length_take]; omega
      generalize xs ++ s.take k = ys at *
      obtain ⟨part, hp, htl, hz⟩ := hf
      have HTL := Lib.hid htl
      have HP := Lib.hid hp
      have HFT := Lib.hid (fun (W : World) h => feed_tail (w := W) (g := g) (c := s[k]) hp htl h)
      have HFF := Lib.hid (fun (W : World) h => feed_full (w := W) (g := g) (c := s[k]) hp htl h)
      have hvo := feedH_ok ys
      generalize feedH ys = v at *
      obtain ⟨n, hn⟩ : ∃ n, ys.length = n := ⟨_, rfl⟩
      rw [hn] at hyl htl hz HTL HFT HFF
      obtain ⟨m, hm⟩ : ∃ m, n % 64 = m := ⟨_, rfl⟩
      have hm64 : m < 64 := by omega
      rw [hm] at htl HTL HFT HFF
      have hmi : (n : Int) % 64 = (m : Int) := by omega
      have hm64' : (m : Int) < 64 := by omega
      have e8 := arr_cell hz (i := 8) (v := .int .u64 n) rfl
      have hmp : m < part.length := by omega
      have e9 := arr_cell hz (i := 9 + m) (by rw [List.getElem?_toArray]; exact feedC_part v n part hmp)
      unfold bV at e9
      generalize part[m] = u at e9
      have q9 := LaterOf.cell e9
      have hbk : ({ data := s.toArray } : ByteArray)[k]'(by simpa [ByteArray.size] using h1) = s[k] := rfl
      generalize s[k] = c at *
      have HZ := Lib.hid hz
      have HG := Lib.hid hG
      clear hz hG hm hp htl hn hmp
      go_upto_region 4 with fail
      (refine wp_tail_quick 8 1 rfl (by kernel_rfl) (by kernel_rfl) (by kernel_rfl) (by kernel_rfl) ?_; simp only [List.take_succ_cons, List.take_zero]; (repeat (go_big_quiet_step (fail))); refine wpQuiet_nil ?_; intro _ hw1; obtain ⟨lw, hw2⟩ := hw1; subst hw2)
      have hz2 := (lw.below.block g (heap_lt HZ.out)).trans HZ.out
      have c9 := q9 lw
      have s9 := is_some c9
      have f9 := arr_frozen (i := 9 + m) hz2
      have HG2 := Lib.hid (gro_chain HG.out lw.below)
      clear e8 e9 q9
      (refine wpAny_ready (rs := [8]) (by kernel_rfl) (by simp) ?_; refine AllReady.cons rfl (fun K hK => ?_) AllReady.nil; go_simp; refine hK _ _ ?_; clear hK K)
      refine wpAny_done (by kernel_rfl) ?_ _
      obtain ⟨w3, hw3⟩ : ∃ w3, w3 = lw.world.setCell ⟨g, 9 + m, none⟩ (.int .u8 ((c.toNat : Nat) : Int)) := ⟨_, rfl⟩
      rw [← hw3]
      have hz3 : w3.heap[g]? = some (.cells (feedC v n (part.set m c)).toArray 147 (0, 0)) := by
        rw [hw3, heap_setCell_same lw.world g _ _ _ _ hz2, ← feedC_set]
        simp [bV]
      have HG3 : Hid (Gro g w w3) := Lib.hid (by rw [hw3]; exact gro_set HG2.out _ _)
      have d8 := arr_cell hz3 (i := 8) (v := .int .u64 n) rfl
      have r8 := is_some d8
      have t8 := arr_frozen (i := 8) hz3
      have HZ3 := Lib.hid hz3
      clear hw3 hz3 hz2 c9 s9 f9 HG2 HG HZ
      obtain ⟨w4, hw4⟩ : ∃ w4, w4 = w3.setCell ⟨g, 8, none⟩ (.int .u64 ((n : Int) + 1)) := ⟨_, rfl⟩
      have HZ4 : Hid (w4.heap[g]? = some (.cells (feedC v (n + 1) (part.set m c)).toArray 147 (0, 0))) := Lib.hid (by
        rw [hw4, heap_setCell_same w3 g _ _ _ _ HZ3.out, ← feedC_size v n (n + 1)]
        simp)
      have HG4 : Hid (Gro g w w4) := Lib.hid (by rw [hw4]; exact gro_set HG3.out _ _)
      by_cases h63 : m = 63
      · have h63' : ((m : Int) == 63) = true := by rw [beq_iff_eq]; omega
        have HF := Lib.hid (fun W => HFF.out W h63)
        have CT := take_walk v hvo (n + 1) (part.set m c) (by rw [List.length_set]; exact HP.out)
        have hpl : (part.set m c).length = 64 := by rw [List.length_set]; exact HP.out
        generalize part.set m c = part' at *
        have hl : ∀ p : LaterOf w4, (loadVar 95 ⟨g, 9, none⟩).run Tryz.prog p.world = .ok (.agg (part'.map bV).toArray) p.world := fun p =>
          run_load_part p.world g 9 _ _ _ (fun j u h => LaterOf.cell (arr_cell HZ4.out (i := 9 + j) (by
            have hj : j < (part'.map bV).length := (List.getElem?_eq_some_iff.1 h).1
            rw [List.length_map] at hj
            rw [List.getElem?_toArray, feedC_part _ _ _ hj, ← h, List.getElem?_map, List.getElem?_eq_getElem hj]; rfl)) p) Tryz.underlying95 rfl (by simp only [List.length_map, hpl]; kernel_rfl)
        clear h63 HFF HFT
        go_upto_region 7 with fail
        rw [← hw4]
        clear hw4
        (refine wp_tail_quick 7 1 rfl (by kernel_rfl) (by kernel_rfl) (by kernel_rfl) (by kernel_rfl) ?_; simp only [List.take_succ_cons, List.take_zero]; (repeat (first | go_big_quiet_step (fail) | ((refine wpQuiet_load rfl 95 _ rfl ⟨g, 9, none⟩ rfl _ (fun _ hp => by obtain ⟨p, hp2⟩ := hp; subst hp2; exact hl p) ?_); go_simp))); refine wpQuiet_nil ?_; first | (intro _ hw1; obtain ⟨lw, hw2⟩ := hw1; subst hw2) | intro lw)
        have CT5 := CT g lw.world ((lw.below.block g (heap_lt HZ4.out)).trans HZ4.out)
        have HG5 := Lib.hid (gro_chain HG4.out lw.below)
        clear CT hl d8 r8 t8
        refine wpAny_ready (rs := [7]) (by kernel_rfl) (by simp) ?_
        refine AllReady.cons rfl (fun K hK => ?_) AllReady.nil
        go_simp
        refine CT5.mono ?_
        rintro e w6 ⟨rfl, hz6, hg6⟩
        have HF6 := Lib.hid (HF.out w6 hz6)
        have HG6 := Lib.hid (World.grownBy.trans HG5.out hg6)
        clear hz6 hg6 CT5
        refine hK _ _ ?_
        clear hK K
        refine wpAny_done (by kernel_rfl) ?_ _
        go_wp2
        go_roundw
        case rel => exact ⟨k + 1, by omega, by go_num, by rw [← HT.out]; exact HF6.out, HG6.out⟩
        case measure => simp [intOf]; omega
      · have h63' : ((m : Int) == 63) = false := by rw [beq_eq_false_iff_ne]; omega
        have HF := Lib.hid (HFT.out w4 h63 HZ4.out)
        clear HFF HFT
        go_wp2
        rw [← hw4]
        go_roundw
        case rel => exact ⟨k + 1, by omega, by go_num, by rw [← HT.out]; exact HF.out, HG4.out⟩
        case measure => simp [intOf]; omega
    · have h1' : ¬ (k : Int) < (s.length : Int) := by omega
      obtain rfl : k = s.length := by omega
      rw [List.take_of_length_le (Nat.le_refl _)] at hf
      have HF := Lib.hid hf
      have HG := Lib.hid hG
      clear hf hG
      go_wp2
      go_end0
      exact ⟨rfl, HF.out, HG.out⟩
end Go.Proofs.YtkejdbidomlonaaGreatDoor
