/- The program's Write of a node, at the two nodes that awake() writes. The program's sums. The program's words of a block. -/
import Derived.Test.YtbmdoekfbkpaeaaGreatDoorJBld
import Derived.Test.YtbmdoekfbkpaeaaGreatDoorPFit11
import Derived.Test.YtbmdoekfbkpaeaaGreatDoorJKeyNP
import Derived.Test.YtbmdoekfbkpaeaaGreatDoorJAhead
namespace Go.Proofs.YtbmdoekfbkpaeaaGreatDoor
open Go.RowKit

theorem putV_zero : putV 0 = [0] := putV_small (by omega)

theorem bld_on {B b : Nat} {l : List UInt8} {w w' : World} (h : IsBld B b l w) (hb : Below w.heap.size w w') : IsBld B b l w' := by
  rcases h with ⟨hB, v, hbk, hown, hne⟩ | ⟨hB, v, hbk, hown, hne⟩
  · exact .inl ⟨hB, v, (hb.block b (heap_lt hbk)).trans hbk, own_on hown hb, hne⟩
  · exact .inr ⟨hB, v, (hb.block b (heap_lt hbk)).trans hbk, own_on hown hb, hne⟩

set_option maxHeartbeats 4000000 in
set_option maxRecDepth 100000 in
theorem list0_walk (fv : Value) (w : World) :
    Calls Tryz.prog 95 #[.slice none 0 0, fv] w fun e w' => e = .returned (S [0]) ∧ Below w.heap.size w w' := by
  have hfr := Lib.fresh_isBuilder 150 5 w
  obtain ⟨w1, hw1, hb1, hz1⟩ : ∃ w1, w1 = w.alloc (.cells #[.pointer none, .slice none 0 0] 150) ∧ Below w.heap.size w w1 ∧ IsBld w.heap.size w.heap.size [] w1 :=
    ⟨_, rfl, (Below.refl _ _).alloc (Nat.le_refl _) _, hfr⟩
  have HB1 := Lib.hid hb1
  have HZ1 := Lib.hid hz1
  have CP : Calls Tryz.prog 118 #[.int .u64 0] w1 (fun e w' => e = .returned (S [0]) ∧ Below w1.heap.size w1 w') := by
    have h := pput_walk 0 w1 (by omega)
    rw [putV_zero] at h
    exact h
  clear hfr hb1 hz1
  go_enter Tryz.func95, Tryz.ntmps95
  go_upto_region 2 with fail
  rw [← hw1]
  clear hw1
  go_wp2_with fail
  refine CP.mono ?_
  rintro e w2 ⟨rfl, hb2⟩
  have hB2 := below_chain HB1.out hb2 HB1.out.size
  have CW := wstr_walk w.heap.size w.heap.size [] [0] w2 (bld_on HZ1.out hb2) (by simp) (by simp) (by simp) hB2.size
  have HB2 := Lib.hid hB2
  clear CP hb2 hB2
  go_wp2_with fail
  refine CW.mono ?_
  rintro e w3 ⟨⟨q, rfl⟩, hbld, hb3⟩
  have hB3 := HB2.out.trans hb3
  have HB3 := Lib.hid hB3
  have CS := bstring_walk w.heap.size w.heap.size ([] ++ [0]) w3 hbld hB3.size
  have HS3 := Lib.hid hB3.size
  clear CW hbld hb3 hB3
  go_wp2
  go_loopw [15] (fun i wr => i = .int .i64 0 ∧ wr = w3) (fun _ _ => 0)
  case atStart => exact ⟨rfl, rfl⟩
  case round =>
    obtain ⟨rfl, rfl⟩ := hrel
    go_wp2_with fail
    refine CS.mono ?_
    rintro e w4 ⟨rfl, hb4⟩
    go_wp2
    go_ret
    exact ⟨rfl, HB3.out.trans hb4⟩
theorem pconv1 (c : Nat) (b : UInt8) (W : World) (g : Nat) (h : W.cell? ⟨g, 0, none⟩ = some (.int .u8 (b.toNat : Int))) : (convert 74 9 (.slice (some ⟨g, 0, none⟩) 1 c)).run Tryz.prog W = .ok (.string ⟨#[b]⟩) W := by
  refine run_convert_bytes_back W _ _ 5 _ _ [b] Tryz.underlying74 Tryz.underlying5 Tryz.underlying9 fun j hj => ?_
  obtain rfl : j = 0 := by simp at hj; omega
  simpa [Addr.add] using h

set_option maxHeartbeats 4000000 in
set_option maxRecDepth 100000 in
theorem pwr_one (w : World) :
    Calls Tryz.prog 75 #[NodV ⟨1, [97], [], []⟩ (.slice none 0 0) (.slice none 0 0)] w fun e w' => e = .returned (S [1, 97]) ∧ Below w.heap.size w w' := by
  obtain ⟨w1, hw1, hB1, hz⟩ : ∃ w1, w1 = w.alloc (.cells #[.int .i64 1, S [97], .slice none 0 0, .slice none 0 0] 40) ∧ Below w.heap.size w w1 ∧ w1.heap[w.heap.size]? = some (.cells #[.int .i64 1, S [97], .slice none 0 0, .slice none 0 0] 40 (0, 0)) :=
    ⟨_, rfl, (Below.refl _ _).alloc (Nat.le_refl _) _, heap_alloc_new _ _⟩
  have CF := pfit11_walk (.slice none 0 0) (.slice none 0 0) ⟨1, [97], [], []⟩ w1 ⟨Row.nil _ _, Row.nil _ _⟩ (by simp) (by simp) (by simp) (by simp)
  rw [fitN_iff.2 (show FitN ⟨1, [97], [], []⟩ from .inl ⟨rfl, by simp, by simp, rfl, rfl⟩)] at CF
  obtain ⟨⟨z0, z1, z2, z3⟩, -, -⟩ := box4 hz
  go_enter Tryz.func75, Tryz.ntmps75
  go_upto_region 1 with fail
  rw [← hw1]
  clear hw1
  go_wp2_with fail
  refine CF.mono ?_
  rintro e w2 ⟨rfl, hb2⟩
  have hz2 := (hb2.block _ (heap_lt hz)).trans hz
  have hB2 := below_chain hB1 hb2 hB1.size
  clear CF hz hB1 hb2 z0 z1 z2 z3
  obtain ⟨w3, hw3, hz3, hB3, hc3⟩ : ∃ w3, w3 = w2.alloc (.cells #[.int .u8 1] 5) ∧ w3.heap[w.heap.size]? = some (.cells #[.int .i64 1, S [97], .slice none 0 0, .slice none 0 0] 40 (0, 0)) ∧ Below w.heap.size w w3 ∧ w3.cell? ⟨w2.heap.size, 0, none⟩ = some (.int .u8 1) :=
    ⟨_, rfl, (((Below.refl _ _).alloc (Nat.le_refl _) _).block _ (heap_lt hz2)).trans hz2, hB2.alloc hB2.size _, cell_new _ _ _ _ rfl⟩
  have hcv := pconv1 1 (1 : UInt8) w3 w2.heap.size hc3
  obtain ⟨⟨z0, z1, z2, z3⟩, -, -⟩ := box4 hz2
  obtain ⟨⟨y0, y1, y2, y3⟩, -, -⟩ := box4 hz3
  have z0a := fun o => cell_old z0 o
  have hcat : (⟨#[1]⟩ : ByteArray) ++ (⟨#[97]⟩ : ByteArray) = ⟨#[1, 97]⟩ := rfl
  go_upto_region 4 with fail
  rw [← hw3, hcv]
  clear hw3 hcv z0a z0 z1 z2 z3
  simp only [Result.andThen]
  rw [Oper.upon_value]
  go_wp2
  go_ret
  exact ⟨rfl, hB3⟩

set_option maxHeartbeats 4000000 in
set_option maxRecDepth 100000 in
theorem pwr_two (w : World) :
    Calls Tryz.prog 75 #[NodV ⟨2, [], [], []⟩ (.slice none 0 0) (.slice none 0 0)] w fun e w' => e = .returned (S [2, 0]) ∧ Below w.heap.size w w' := by
  obtain ⟨w1, hw1, hB1, hz⟩ : ∃ w1, w1 = w.alloc (.cells #[.int .i64 2, S [], .slice none 0 0, .slice none 0 0] 40) ∧ Below w.heap.size w w1 ∧ w1.heap[w.heap.size]? = some (.cells #[.int .i64 2, S [], .slice none 0 0, .slice none 0 0] 40 (0, 0)) :=
    ⟨_, rfl, (Below.refl _ _).alloc (Nat.le_refl _) _, heap_alloc_new _ _⟩
  have CF := pfit11_walk (.slice none 0 0) (.slice none 0 0) ⟨2, [], [], []⟩ w1 ⟨Row.nil _ _, Row.nil _ _⟩ (by simp) (by simp) (by simp) (by simp)
  rw [fitN_iff.2 (show FitN ⟨2, [], [], []⟩ from .inr (.inl ⟨rfl, rfl, rfl, ⟨by simp, by simp, by simp [wholeP]⟩⟩))] at CF
  obtain ⟨⟨z0, z1, z2, z3⟩, -, -⟩ := box4 hz
  go_enter Tryz.func75, Tryz.ntmps75
  go_upto_region 1 with fail
  rw [← hw1]
  clear hw1
  go_wp2_with fail
  refine CF.mono ?_
  rintro e w2 ⟨rfl, hb2⟩
  have hz2 := (hb2.block _ (heap_lt hz)).trans hz
  have hB2 := below_chain hB1 hb2 hB1.size
  clear CF hz hB1 hb2 z0 z1 z2 z3
  obtain ⟨w3, hw3, hz3, hB3, hc3⟩ : ∃ w3, w3 = w2.alloc (.cells #[.int .u8 2] 5) ∧ w3.heap[w.heap.size]? = some (.cells #[.int .i64 2, S [], .slice none 0 0, .slice none 0 0] 40 (0, 0)) ∧ Below w.heap.size w w3 ∧ w3.cell? ⟨w2.heap.size, 0, none⟩ = some (.int .u8 2) :=
    ⟨_, rfl, (((Below.refl _ _).alloc (Nat.le_refl _) _).block _ (heap_lt hz2)).trans hz2, hB2.alloc hB2.size _, cell_new _ _ _ _ rfl⟩
  have hcv := pconv1 1 (2 : UInt8) w3 w2.heap.size hc3
  obtain ⟨⟨z0, z1, z2, z3⟩, -, -⟩ := box4 hz2
  obtain ⟨⟨y0, y1, y2, y3⟩, -, -⟩ := box4 hz3
  have z0a := fun o => cell_old z0 o
  have hcat : (⟨#[2]⟩ : ByteArray) ++ (⟨#[0]⟩ : ByteArray) = ⟨#[2, 0]⟩ := rfl
  have CL := fun fv => list0_walk fv w3
  go_upto_region 4 with fail
  rw [← hw3, hcv]
  clear hw3 hcv z0a z0 z1 z2 z3
  simp only [Result.andThen]
  rw [Oper.upon_value]
  go_wp2_with (go_at_call 95; refine (CL _).mono ?_; rintro e w4 ⟨rfl, hb4⟩)
  go_ret
  exact ⟨rfl, below_chain hB3 hb4 hB3.size⟩
end Go.Proofs.YtbmdoekfbkpaeaaGreatDoor

namespace Go.Proofs.YtbmdoekfbkpaeaaGreatDoor
open Go.RowKit

set_option maxHeartbeats 2000000 in
set_option maxRecDepth 100000 in
theorem rotl_walk (x n : Nat) (w : World) (hx : x < 4294967296) (h0 : 0 < n) (hn : n < 32) :
    Calls Tryz.prog 162 #[.int .u32 x, .int .i64 (-(n : Int))] w fun e w' => e = .returned (.int .u32 (rotN n x : Nat)) ∧ w' = w := by
  have hs : bits BinOp.and IntKind.u64 (IntKind.u64.wrap (-(n : Int))) 31 = 32 - (n : Int) := by
    have e : IntKind.u64.wrap (-(n : Int)) = ((18446744073709551616 - n : Nat) : Int) := by simp only [IntKind.wrap, IntKind.bits, IntKind.signed]; simp; omega
    rw [e, show (31 : Int) = ((31 : Nat) : Int) from rfl, u64_and_nat _ _ (by omega) (by omega)]
    have := Nat.and_two_pow_sub_one_eq_mod (18446744073709551616 - n) 5
    rw [show (2 : Nat) ^ 5 - 1 = 31 from rfl] at this
    rw [this]
    omega
  go_enter Tryz.func162, Tryz.ntmps162
  go_wp2
  go_ret
  exact ⟨congrArg (fun z => Ending.returned (Value.int IntKind.u32 z)) (by rw [show 32 - (32 - n) = n by omega]; exact bits_rot' (by omega) hx), rfl⟩

set_option maxRecDepth 100000 in
theorem down_walk (x n : Nat) (w : World) (hx : x < 4294967296) (h0 : 0 < n) (hn : n < 32) :
    Calls Tryz.prog 155 #[.int .u32 x, .int .i64 n] w fun e w' => e = .returned (.int .u32 (rotN n x : Nat)) ∧ w' = w := by
  have C := rotl_walk x n w hx h0 hn
  go_enter Tryz.func155, Tryz.ntmps155
  go_wp2_with (go_at_call 162; refine (C).mono ?_; rintro e w' ⟨rfl, rfl⟩)
  go_ret
  exact ⟨rfl, rfl⟩

set_option maxHeartbeats 4000000 in
set_option maxRecDepth 100000 in
theorem const_walk (w : World) :
    Calls Tryz.prog 153 #[] w fun e w' => e = .returned (.agg (kSha.map wV).toArray) ∧ Below w.heap.size w w' := by
  go_enter Tryz.func153, Tryz.ntmps153
  go_upto_region 1 with fail
  generalize hw1 : w.alloc _ = w1
  have hz : w1.heap[w.heap.size]? = some (.cells (Array.replicate 64 (.int .u32 0)) 104 (0, 0)) := by
    rw [← hw1]
    exact heap_alloc_new _ _
  have hb : Below w.heap.size w w1 := by
    rw [← hw1]
    exact (Below.refl _ _).alloc (Nat.le_refl _) _
  clear hw1
  apply wp_region_lit
  refine wpList_build rfl 104 _ rfl (by as_aux_lemma => kernel_rfl) ?_
  refine wpList_store_row rfl 104 _ _ rfl w.heap.size (kSha.map wV).toArray rfl (by as_aux_lemma => kernel_rfl) 104 _ hz (by as_aux_lemma => kernel_rfl) rfl (by as_aux_lemma => kernel_rfl) ?_
  apply wpList_nil
  generalize hw2 : w1.setRow _ _ = w2
  have hz2 : w2.heap[w.heap.size]? = some (.cells (kSha.map wV).toArray 104 (0, 0)) := by
    rw [← hw2]
    exact setRow_heap w1 _ _ _ _ _ hz
  have hb2 : Below w.heap.size w w2 := by
    rw [← hw2]
    exact below_setRow hb (Nat.le_refl _) _
  clear hw2
  rename_i hK
  refine hK _ _ ?_
  apply wp_ret
  exact bodyPost_ret (v := .agg (kSha.map wV).toArray) (results_cell_row rfl _ _ w.heap.size 104 _ _ _ (by as_aux_lemma => kernel_rfl) hz2 Tryz.underlying104 rfl (by as_aux_lemma => kernel_rfl)) rfl ⟨rfl, hb2⟩

set_option maxHeartbeats 4000000 in
set_option maxRecDepth 100000 in
theorem first_walk (w : World) :
    Calls Tryz.prog 131 #[] w fun e w' => e = .returned (.agg (h0Sha.words.map wV).toArray) ∧ Below w.heap.size w w' := by
  go_enter Tryz.func131, Tryz.ntmps131
  go_upto_region 1 with fail
  generalize hw1 : w.alloc _ = w1
  have hz : w1.heap[w.heap.size]? = some (.cells (Array.replicate 8 (.int .u32 0)) 78 (0, 0)) := by
    rw [← hw1]
    exact heap_alloc_new _ _
  have hb : Below w.heap.size w w1 := by
    rw [← hw1]
    exact (Below.refl _ _).alloc (Nat.le_refl _) _
  clear hw1
  apply wp_region_lit
  refine wpList_build rfl 78 _ rfl (by as_aux_lemma => kernel_rfl) ?_
  refine wpList_store_row rfl 78 _ _ rfl w.heap.size (h0Sha.words.map wV).toArray rfl (by as_aux_lemma => kernel_rfl) 78 _ hz (by as_aux_lemma => kernel_rfl) rfl (by as_aux_lemma => kernel_rfl) ?_
  apply wpList_nil
  generalize hw2 : w1.setRow _ _ = w2
  have hz2 : w2.heap[w.heap.size]? = some (.cells (h0Sha.words.map wV).toArray 78 (0, 0)) := by
    rw [← hw2]
    exact setRow_heap w1 _ _ _ _ _ hz
  have hb2 : Below w.heap.size w w2 := by
    rw [← hw2]
    exact below_setRow hb (Nat.le_refl _) _
  clear hw2
  rename_i hK
  refine hK _ _ ?_
  apply wp_ret
  exact bodyPost_ret (v := .agg (h0Sha.words.map wV).toArray) (results_cell_row rfl _ _ w.heap.size 78 _ _ _ (by as_aux_lemma => kernel_rfl) hz2 Tryz.underlying78 rfl (by as_aux_lemma => kernel_rfl)) rfl ⟨rfl, hb2⟩
end Go.Proofs.YtbmdoekfbkpaeaaGreatDoor

namespace Go.Proofs.YtbmdoekfbkpaeaaGreatDoor
open Go.RowKit

set_option maxHeartbeats 4000000 in
set_option maxRecDepth 100000 in
theorem schedule_walk (b : List UInt8) (hl : b.length = 64) (w : World) :
    Calls Tryz.prog 154 #[.agg (b.map bV).toArray] w fun e w' => e = .returned (.agg ((schedW b).map wV).toArray) ∧ Below w.heap.size w w' := by
  go_enter Tryz.func154, Tryz.ntmps154
  go_upto_region 1 with fail
  generalize hw1 : (w.alloc _).alloc _ = w1
  have hz0 : w1.heap[w.heap.size]? = some (.cells (b.map bV).toArray 80 (0, 0)) := by
    rw [← hw1]
    exact heap_alloc2_old _ _ _
  have hz1 : w1.heap[w.heap.size + 1]? = some (.cells ((begW b 0).map wV).toArray 104 (0, 0)) := by
    rw [← hw1, begW_zero]
    exact heap_alloc2_new _ _ _
  have hb : Below w.heap.size w w1 := by
    rw [← hw1]
    exact ((Below.refl _ _).alloc (Nat.le_refl _) _).alloc (by simp) _
  clear hw1
  have hsz : (Tryz.prog.info? 80).map (·.size) = some (b.map bV).toArray.size := by
    simp only [List.size_toArray, List.length_map, hl]
    kernel_rfl
  go_wp2_with (refine wpList_load_row rfl 80 _ rfl w.heap.size rfl 80 _ _ _ hz0 Tryz.underlying80 rfl hsz ?_)
  go_loopw [9, 3, 4] (fun i _ _ wr => ∃ k : Nat, k ≤ 64 ∧ i = .int .i64 k ∧ wr.heap[w.heap.size + 1]? = some (.cells ((begW b k).map wV).toArray 104 (0, 0)) ∧ Below w.heap.size w wr) (fun i _ _ _ => 64 - (intOf i).toNat)
  case atStart => exact ⟨0, Nat.zero_le _, rfl, hz1, hb⟩
  case round =>
    obtain ⟨k, hk, rfl, hzr, hB⟩ := hrel
    by_cases h1 : k < 64
    · have h1' : (k : Int) < 64 := by omega
      have hix : ∀ W : World, (Instr.index 80 (.agg (b.map bV).toArray) (.int .i64 k)).run Tryz.prog W = .ok (.int .u8 ((b[k]'(by omega)).toNat : Nat)) W :=
        run_index_agg 80 5 64 k _ _ _ Tryz.underlying80 Tryz.underlying5 rfl (by kernel_rfl) h1 (map_at (by omega))
      have hq : k / 4 < 64 := by omega
      have hc0 := arr_cell hzr (map_at (f := wV) (i := k / 4) (by rw [begW_len]; exact hq))
      clear hz0 hz1 hb hsz
      have hd1 : 0 ≤ (k : Int) / 4 := by omega
      have hd2 : (k : Int) / 4 < 64 := by omega
      have hd3 : ((k : Int) / 4).toNat = k / 4 := by omega
      have hd4 : 0 ≤ 24 - 8 * ((k : Int) % 4) := by omega
      have hd5 : 24 - 8 * ((k : Int) % 4) ≤ 32 := by omega
      rw [begW_at] at hc0
      unfold wV at hc0
      have HSET := Lib.hid (begW_set (b := b) (i := k) (by omega) hl)
      have hwl := wordB_lt (b.take k) (k / 4)
      generalize wordB (b.take k) (k / 4) = wd at *
      have q0 := LaterOf.cell hc0
      have HZR := Lib.hid hzr
      have HB := Lib.hid hB
      generalize b[k] = c at *
      clear hzr hB
      go_upto_region 4 with fail
      (refine wp_tail_quick 13 1 rfl (by kernel_rfl) (by kernel_rfl) (by kernel_rfl) (by kernel_rfl) ?_; simp only [List.take_succ_cons, List.take_zero]; (repeat (go_big_quiet_step (fail))); refine wpQuiet_nil ?_; intro _ hw1; obtain ⟨lw, hw2⟩ := hw1; subst hw2)
      have HB2 := Lib.hid (below_chain HB.out lw.below HB.out.size)
      have HZ2 := Lib.hid ((lw.below.block _ (heap_lt HZR.out)).trans HZR.out)
      have f1 := arr_frozen (i := k / 4) HZ2.out
      have c1 := q0 lw
      have s1 := is_some c1
      have HOV := Lib.hid (or_val (k := k) hwl (UInt8.toNat_lt c))
      clear q0 HB hc0
      (refine wpAny_ready (rs := [13]) (by kernel_rfl) (by simp) ?_; refine AllReady.cons rfl (fun K hK => ?_) AllReady.nil; go_simp; refine hK _ _ ?_; clear hK K)
      refine wpAny_done (by kernel_rfl) ?_ _
      rw [HOV.out]
      have HA := Lib.hid (arr_set (i := k / 4) (x := wd ||| c.toNat * 2 ^ (24 - 8 * (k % 4))) HZ2.out HB2.out (by omega))
      rw [HSET.out] at HA
      clear HZ2 HB2 f1 c1 s1
      obtain ⟨w3, hw3⟩ : ∃ w3, w3 = lw.world.setCell ⟨w.heap.size + 1, k / 4, none⟩ (.int .u32 ((wd ||| c.toNat * 2 ^ (24 - 8 * (k % 4)) : Nat) : Int)) := ⟨_, rfl⟩
      rw [← hw3]
      have HA2 : Hid (w3.heap[w.heap.size + 1]? = some (.cells ((begW b (k + 1)).map wV).toArray 104 (0, 0)) ∧ Below w.heap.size w w3) := by rw [hw3]; exact HA
      clear hw3 HA
      go_wp2
      go_roundw
      case rel => exact ⟨k + 1, by omega, by go_num, HA2.out.1, HA2.out.2⟩
      case measure => simp [intOf]; omega
    · obtain rfl : k = 64 := by omega
      rw [show ((64 : Nat) : Int) = 64 from rfl]
      go_wp2
      have hz2 : wr.heap[w.heap.size + 1]? = some (.cells (cellsW 64 (firstW b)) 104 (0, 0)) := by
        rw [hzr, begW_end hl]
        simp only [cellsW, List.map_append, List.map_replicate, firstW, List.length_map, List.length_range]
        rfl
      have hfl : (firstW b).length = 16 := by simp [firstW]
      obtain ⟨w2, rfl⟩ : ∃ w2 : World, w2 = wr := ⟨_, rfl⟩
      clear hzr hz0 hz1 hb hsz hk h1
      go_loopw [5] (fun i wr => ∃ (ws : List Nat) (m : Nat), ws.length = m + 16 ∧ m ≤ 48 ∧ i = .int .i64 ((m : Int) + 16) ∧ W32 ws ∧ extW (48 - m) ws = schedW b ∧ wr.heap[w.heap.size + 1]? = some (.cells (cellsW 64 ws) 104 (0, 0)) ∧ Below w.heap.size w wr) (fun i _ => 64 - (intOf i).toNat)
      case atStart => exact ⟨firstW b, 0, hfl, by omega, rfl, firstW_32 b, rfl, hz2, hB⟩
      case round =>
        obtain ⟨ws, m, hwl, hm, rfl, h32, hext, hzr, hB⟩ := hrel
        by_cases h1 : m < 48
        · have h1' : (m : Int) + 16 < 64 := by omega
          have c0 := arr_cell hzr (cellsW_at (i := m) (by omega))
          have c1 := arr_cell hzr (cellsW_at (i := m + 1) (by omega))
          have c9 := arr_cell hzr (cellsW_at (i := m + 9) (by omega))
          have c14 := arr_cell hzr (cellsW_at (i := m + 14) (by omega))
          have cz := arr_cell hzr (cellsW_zero (n := 64) (ws := ws) (i := m + 16) (by omega) (by omega))
          have HN := Lib.hid (nextW_at hwl)
          have HE := Lib.hid ((extW_one (n := 48 - m) (ws := ws) (by omega)).symm.trans hext)
          have hx1 := h32.at (i := m + 1) (by omega)
          have hx0 := h32.at (i := m) (by omega)
          have hx9 := h32.at (i := m + 9) (by omega)
          have hx14 := h32.at (i := m + 14) (by omega)
          generalize ws[m + 1] = x1 at *
          generalize ws[m] = x0 at *
          generalize ws[m + 9] = x9 at *
          generalize ws[m + 14] = x14 at *
          unfold wV at c0 c1 c9 c14
          have q0 := LaterOf.cell c0
          have q1 := LaterOf.cell c1
          have q9 := LaterOf.cell c9
          have q14 := LaterOf.cell c14
          have HZR := Lib.hid hzr
          have HB := Lib.hid hB
          have H32 := Lib.hid h32
          have HWL := Lib.hid hwl
          clear hzr hB h32 hext hwl
          go_upto_region 9 with fail
          (refine wp_region_later (by kernel_rfl) (by kernel_rfl) ?_; (repeat (go_big_quiet_step (fail))); refine wpQuiet_nil ?_; intro _ hw1; obtain ⟨lw, hw2⟩ := hw1; subst hw2)
          obtain ⟨lw0, hlw0⟩ : ∃ lw0, lw0 = lw := ⟨_, rfl⟩
          rw [← hlw0]
          clear hlw0 lw
          have r0 := LaterOf.cell (q0 lw0)
          have r9 := LaterOf.cell (q9 lw0)
          clear q0 q1 q9 q14 c0 c1 c9 c14 cz
          have D1 : ∀ W : World, Calls Tryz.prog 155 #[.int .u32 x1, .int .i64 7] W fun e w' => e = .returned (.int .u32 (rotN 7 x1 : Nat)) ∧ w' = W := fun W => down_walk x1 7 W hx1 (by decide) (by decide)
          have D2 : ∀ W : World, Calls Tryz.prog 155 #[.int .u32 x1, .int .i64 18] W fun e w' => e = .returned (.int .u32 (rotN 18 x1 : Nat)) ∧ w' = W := fun W => down_walk x1 18 W hx1 (by decide) (by decide)
          have D3 : ∀ W : World, Calls Tryz.prog 155 #[.int .u32 x14, .int .i64 17] W fun e w' => e = .returned (.int .u32 (rotN 17 x14 : Nat)) ∧ w' = W := fun W => down_walk x14 17 W hx14 (by decide) (by decide)
          have D4 : ∀ W : World, Calls Tryz.prog 155 #[.int .u32 x14, .int .i64 19] W fun e w' => e = .returned (.int .u32 (rotN 19 x14 : Nat)) ∧ w' = W := fun W => down_walk x14 19 W hx14 (by decide) (by decide)
          go_upto_region 10 with fail
          (refine wp_tail_quick 29 1 rfl (by kernel_rfl) (by kernel_rfl) (by kernel_rfl) (by kernel_rfl) ?_; simp only [List.take_succ_cons, List.take_zero]; (repeat (go_big_quiet_step (first | (go_at_call 155; with_reducible exact LaterOf.still _ (D1 _)) | (go_at_call 155; with_reducible exact LaterOf.still _ (D2 _)) | (go_at_call 155; with_reducible exact LaterOf.still _ (D3 _)) | (go_at_call 155; with_reducible exact LaterOf.still _ (D4 _))))); refine wpQuiet_nil ?_; intro _ hw1; obtain ⟨lw, hw2⟩ := hw1; subst hw2)
          have HB2 := Lib.hid (below_chain (below_chain HB.out lw0.below HB.out.size) lw.below (below_chain HB.out lw0.below HB.out.size).size)
          have HZ2 := Lib.hid ((lw.below.block _ (heap_lt ((lw0.below.block _ (heap_lt HZR.out)).trans HZR.out))).trans ((lw0.below.block _ (heap_lt HZR.out)).trans HZR.out))
          have f1 := arr_frozen (i := m + 16) HZ2.out
          have c1 := arr_cell HZ2.out (cellsW_zero (n := 64) (ws := ws) (i := m + 16) (by have := HWL.out; omega) (by omega))
          have s1 := is_some c1
          have HOV : Hid (((x0 : Int) + x9 + bits BinOp.xor IntKind.u32 (bits BinOp.xor IntKind.u32 ((rotN 7 x1 : Nat) : Int) ((rotN 18 x1 : Nat) : Int)) ((x1 : Int) / 8) + bits BinOp.xor IntKind.u32 (bits BinOp.xor IntKind.u32 ((rotN 17 x14 : Nat) : Int) ((rotN 19 x14 : Nat) : Int)) ((x14 : Int) / 1024)) % 4294967296 = ((nextW ws : Nat) : Int)) := Lib.hid (by
            rw [ssA_val hx1, ssB_val hx14, HN.out]
            omega)
          clear r0 r9 D1 D2 D3 D4
          (refine wpAny_ready (rs := [29]) (by kernel_rfl) (by simp) ?_; refine AllReady.cons rfl (fun K hK => ?_) AllReady.nil; go_simp; refine hK _ _ ?_; clear hK K)
          refine wpAny_done (by kernel_rfl) ?_ _
          rw [HOV.out]
          have HA := Lib.hid (arr_push (x := nextW ws) HZ2.out (by have := HWL.out; omega) HB2.out (by omega))
          rw [HWL.out] at HA
          obtain ⟨w3, hw3⟩ : ∃ w3, w3 = lw.world.setCell ⟨w.heap.size + 1, m + 16, none⟩ (.int .u32 ((nextW ws : Nat) : Int)) := ⟨_, rfl⟩
          rw [← hw3]
          have HA2 : Hid (w3.heap[w.heap.size + 1]? = some (.cells (cellsW 64 (ws ++ [nextW ws])) 104 (0, 0)) ∧ Below w.heap.size w w3) := by rw [hw3]; exact HA
          clear hw3 HA HZ2 HB2 f1 c1 s1
          go_wp2
          go_roundw
          case rel => exact ⟨ws ++ [nextW ws], m + 1, by rw [List.length_append, HWL.out]; rfl, by omega, by go_num, H32.out.snoc (nextW_lt _), by rw [← HE.out, show 48 - (m + 1) = 48 - m - 1 by omega], HA2.out.1, HA2.out.2⟩
          case measure => simp [intOf]; omega
        · obtain rfl : m = 48 := by omega
          have hws : ws = schedW b := hext
          rw [cellsW_all (by omega), hws] at hzr
          have hsz : (Tryz.prog.info? 104).map (·.size) = some (((schedW b).map wV).toArray).size := by
            simp only [List.size_toArray, List.length_map, schedW_len]
            kernel_rfl
          have HB := Lib.hid hB
          have hone := one_map (f := wV) (fun _ => rfl) (schedW b)
          clear hext h32 hws hwl hz2 hB
          go_upto_region 11 with fail
          apply wp_region_lit
          refine wpList_load_row rfl 104 _ rfl (w.heap.size + 1) rfl 104 _ _ _ hzr Tryz.underlying104 rfl hsz ?_
          refine wpList_store_row rfl 104 _ _ rfl (w.heap.size + 1) ((schedW b).map wV).toArray rfl (by as_aux_lemma => kernel_rfl) 104 _ hzr hsz rfl hone ?_
          apply wpList_nil
          generalize hw2 : wr.setRow _ _ = w3
          have hz3 : w3.heap[w.heap.size + 1]? = some (.cells ((schedW b).map wV).toArray 104 (0, 0)) := by
            rw [← hw2]
            exact setRow_heap wr _ _ _ _ _ hzr
          have hb3 : Below w.heap.size w w3 := by
            rw [← hw2]
            exact below_setRow HB.out (by omega) _
          clear hw2
          rename_i hK
          refine hK _ _ ?_
          apply wp_ret
          exact bodyPost_ret (v := .agg ((schedW b).map wV).toArray) (results_cell_row rfl _ _ (w.heap.size + 1) 104 _ _ _ (by as_aux_lemma => kernel_rfl) hz3 Tryz.underlying104 rfl hsz) rfl ⟨rfl, hb3⟩
end Go.Proofs.YtbmdoekfbkpaeaaGreatDoor
