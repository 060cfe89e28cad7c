/- The reference's sum of a text. -/
import Derived.Test.YtaompdnnkfmjhaaGreatDoorJRSha3
import Derived.Test.YtaompdnnkfmjhaaGreatDoorJAny
namespace Go.Proofs.YtaompdnnkfmjhaaGreatDoor
open Go.RowKit

theorem byteCells_app (a b : List UInt8) : Lib.byteCells (a ++ b) = Lib.byteCells a ++ Lib.byteCells b := by simp [Lib.byteCells]
theorem byteCells_len (a : List UInt8) : (Lib.byteCells a).length = a.length := by simp [Lib.byteCells]

def sliceLen : Value → Nat
  | .slice _ n _ => n
  | _ => 0

set_option maxHeartbeats 8000000 in
set_option maxRecDepth 100000 in
theorem rsha_walk (s : List UInt8) (w : World) (hs : s.length ≤ 1100000) :
    Calls Tryz.prog 113 #[S s] w fun e w' => e = .returned (S (shaF s)) ∧ Below w.heap.size w w' := by
  obtain ⟨i0, hi, hz0, hz1, hz2⟩ := info_parts infoByte
  obtain ⟨v0, w1, hcv, hrow, hb1⟩ := conv_row (P := Tryz.prog) w 9 113 5 s hs Tryz.underlying9 Tryz.underlying113 Tryz.underlying5
  have hlw : IntKind.u64.wrap (s.length : Int) = (s.length : Int) := by simp only [IntKind.wrap, IntKind.bits, IntKind.signed]; simp; omega
  obtain ⟨g0, cp0, hv0, -⟩ := hrow.slice
  have HROW := Lib.hid hrow
  clear hrow
  subst hv0
  rw [byteCells_len] at hcv HROW
  go_enter Tryz.func113, Tryz.ntmps113
  go_wp2_with (at_builtin; refine wpList_append_rowm _ rfl _ _ 113 rfl 5 i0 (.int .u8 0) 1 Tryz.underlying113 hi hz0 hz1 hz2 rfl w.heap.size _ (Lib.byteCells s) rfl (HROW.out.below ((Below.refl _ _).alloc (Nat.le_refl _) _)) ⟨w1.heap.size, 0, none⟩ 1 1 [.int .u8 128] rfl rfl (new_cell _ _ _) (by intro u hu; simp at hu; subst hu; rfl) (by rw [byteCells_len]; unfold maxLen; omega) (by rw [byteCells_len]; omega) (by have := hb1.size; simp; omega) ?_)
  intro v2 w2 hrow2 hb2
  have HB2 := Lib.hid ((hb1.trans ((Below.refl w.heap.size w1).alloc hb1.size _)).trans hb2)
  have HROW2 : Hid (RowM w2 w.heap.size 5 v2 (Lib.byteCells (s ++ [128]))) := Lib.hid (by rw [byteCells_app]; exact hrow2)
  clear hrow2 hb2 hcv HROW hb1 hlw
  go_wp2
  go_loopw [4] (fun v wr => ∃ j : Nat, RowM wr w.heap.size 5 v (Lib.byteCells (s ++ [128] ++ List.replicate j 0)) ∧ zerosN (s.length + 1) = zerosN (s.length + 1 + j) + j ∧ Below w.heap.size w wr) (fun v _ => zerosN (sliceLen v))
  case atStart => exact ⟨0, by simpa using HROW2.out, rfl, HB2.out⟩
  case round =>
    obtain ⟨j, hrow, hj, hB⟩ := hrel
    have hzl := zerosN_lt (s.length + 1)
    obtain ⟨g, cp, hv, -⟩ := hrow.slice
    subst hv
    have hlen : (Lib.byteCells (s ++ [128] ++ List.replicate j 0)).length = s.length + 1 + j := by rw [byteCells_len]; simp only [List.length_append, List.length_replicate, List.length_singleton]
    rw [hlen] at hrow
    have HROW := Lib.hid hrow
    have HJ := Lib.hid hj
    have HB := Lib.hid hB
    have HLEN := Lib.hid hlen
    have hjl : j < 64 := by omega
    have hbs := hB.size
    clear hrow hj hB
    rw [hlen]
    obtain ⟨m, hm⟩ : ∃ m, s.length + 1 + j = m := ⟨_, rfl⟩
    rw [hm] at HROW HJ HLEN ⊢
    clear hlen
    have hml : m ≤ 2000000 := by omega
    by_cases h56 : m % 64 = 56
    · have h56' : ((m : Int) % 64 == 56) = true := by rw [beq_iff_eq]; omega
      have h56n : (!((m : Int) % 64 == 56)) = false := by rw [h56']; rfl
      have h56m : ((m : Int) % 64 != 56) = false := by rw [bne, h56']; rfl
      have hz0 := zerosN_zero h56
      have hpz : s ++ [128] ++ List.replicate j 0 = padZ s := by
        have hj2 := HJ.out
        unfold padZ
        rw [hj2, hz0, Nat.zero_add]
      rw [hpz] at HROW HLEN
      clear HJ hz0 h56 hpz
      go_wp2
      obtain ⟨wo, rfl⟩ : ∃ wo : World, wo = wr := ⟨_, rfl⟩
      go_loopw [4, 5] (fun v i w' => ∃ j : Nat, j ≤ 8 ∧ i = .int .i64 (7 - (j : Int)) ∧ RowM w' w.heap.size 5 v (Lib.byteCells (padZ s ++ (bytes8 (s.length * 8)).take j)) ∧ Below w.heap.size w w') (fun _ i _ => (intOf i + 1).toNat)
      case atStart => exact ⟨0, Nat.zero_le _, rfl, by rw [List.take_zero, List.append_nil]; exact HROW.out, HB.out⟩
      case round =>
        clear HROW HB hbs
        obtain ⟨i, hi8, rfl, hrow, hB⟩ := hrel
        obtain ⟨g, cp, hv, hgB, hgl, -⟩ := hrow.slice
        subst hv
        have hpl := padZ_le s
        have hlen : (Lib.byteCells (padZ s ++ (bytes8 (s.length * 8)).take i)).length = (padZ s).length + i := by
          rw [byteCells_len, List.length_append, List.length_take]
          show _ + min i 8 = _
          omega
        rw [hlen] at hrow ⊢
        have HROW := Lib.hid hrow
        have HB := Lib.hid hB
        have hbs := hB.size
        obtain ⟨m2, hm2⟩ : ∃ m2, (padZ s).length + i = m2 := ⟨_, rfl⟩
        have HM2 := Lib.hid hm2
        rw [hm2] at HROW hlen ⊢
        have HLEN2 := Lib.hid hlen
        have hm2l : m2 ≤ 2000000 := by omega
        clear hrow hB hlen hm2
        by_cases h1 : i < 8
        · have h1' : 0 ≤ 7 - (i : Int) := by omega
          have h4' : (i : Int) ≤ 7 := by omega
          have hw8 : IntKind.u64.wrap (8 * (7 - (i : Int))) = 8 * (7 - (i : Int)) := by simp only [IntKind.wrap, IntKind.bits, IntKind.signed]; simp; omega
          have h3' : (8 * (7 - (i : Int))).toNat = 56 - 8 * i := by omega
          have hii : i < (bytes8 (s.length * 8)).length := h1
          have HT := Lib.hid (List.take_succ_eq_append_getElem hii)
          obtain ⟨c, hc⟩ : ∃ c, (bytes8 (s.length * 8))[i] = c := ⟨_, rfl⟩
          have hcn := bytes8_at (s.length * 8) i hii
          rw [hc] at HT hcn
          have hci : ((s.length : Int) * 8 / 2 ^ (56 - 8 * i) % 256) = ((c.toNat : Nat) : Int) := by rw [hcn, Int.natCast_emod, Int.natCast_ediv, Int.natCast_mul, Int.natCast_pow]; rfl
          obtain ⟨ys, hys⟩ : ∃ ys, padZ s ++ (bytes8 (s.length * 8)).take i = ys := ⟨_, rfl⟩
          have HYS := Lib.hid (show padZ s ++ (bytes8 (s.length * 8)).take (i + 1) = ys ++ [c] by rw [HT.out, ← List.append_assoc, hys])
          rw [hys] at HROW HLEN2
          clear hc hii hcn HT hys
          go_wp2_with (at_builtin; refine wpList_append_rowm _ rfl _ _ 113 rfl 5 i0 (.int .u8 0) 1 Tryz.underlying113 hi hz0 hz1 hz2 rfl w.heap.size _ _ rfl (HROW.out.below ((Below.refl _ _).alloc (Nat.le_refl _) _)) ⟨wr.heap.size, 0, none⟩ 1 1 [.int .u8 ((c.toNat : Nat) : Int)] rfl rfl (new_cell _ _ _) (by intro u hu; simp at hu; subst hu; rfl) (by rw [HLEN2.out]; unfold maxLen; omega) (by rw [HLEN2.out]; omega) (by simp; omega) ?_)
          intro v3 w3 hrow3 hb3
          have HB3 := Lib.hid ((HB.out.trans ((Below.refl w.heap.size wr).alloc hbs _)).trans hb3)
          have HR4 : Hid (RowM w3 w.heap.size 5 v3 (Lib.byteCells (padZ s ++ (bytes8 (s.length * 8)).take (i + 1)))) := Lib.hid (by
            rw [HYS.out, byteCells_app]
            exact hrow3)
          clear hrow3 hb3 hci hw8
          go_wp2
          go_roundw
          case rel => exact ⟨i + 1, by omega, congrArg (Value.int IntKind.i64) (by omega), HR4.out, HB3.out⟩
          case measure => simp [intOf]; omega
        · obtain rfl : i = 8 := by omega
          have h1' : ¬ (0 ≤ 7 - ((8 : Nat) : Int)) := by omega
          rw [show (padZ s ++ (bytes8 (s.length * 8)).take 8) = padS s from rfl] at HROW HLEN2
          have hm8 : (padS s).length = m2 := by rw [← byteCells_len, HLEN2.out]
          have hSH := show shaF s = (blocksH h0Sha (padS s) ((padS s).length / 64)).bytes from rfl
          have hp64 := padS_64 s
          rw [hm8] at hSH hp64
          have HSH := Lib.hid hSH
          have HP64 := Lib.hid hp64
          have HM8 := Lib.hid hm8
          have HGB := Lib.hid hgB
          generalize padS s = pad at *
          clear hSH hp64 hm8 HM2 h1 hi8 HLEN hm hml h56' h56n h56m hpl
          have CI := rfirst_walk wr
          rw [show (7 - ((8 : Nat) : Int)) = -1 from rfl]
          go_wp2_with fail
          refine CI.mono ?_
          rintro e w3 ⟨rfl, hb3⟩
          have HROW3 := Lib.hid (HROW.out.below hb3)
          have HB3 := Lib.hid (below_chain HB.out hb3 hbs)
          have hgl3 := Nat.lt_of_lt_of_le hgl hb3.size
          have hhs : (Tryz.prog.info? 205).map (·.size) = some ((h0Sha.words.map wV).toArray).size := by kernel_rfl
          have hh1 := one_map (f := wV) (fun _ => rfl) h0Sha.words
          clear CI HROW hb3
          go_upto_region 10 with (refine wpList_store_row rfl 205 _ _ rfl w3.heap.size (h0Sha.words.map wV).toArray rfl rfl 205 (Array.replicate 8 (Value.int .u32 0)) (heap_alloc_new _ _) hhs rfl hh1 ?_; simp only [Act.put])
          generalize hw4 : World.setRow _ _ _ = w4
          obtain ⟨xh, hb4⟩ : w4.heap[w3.heap.size]? = some (.cells (h0Sha.words.map wV).toArray 205 (0, 0)) ∧ Below w3.heap.size w3 w4 := by rw [← hw4]; exact laid_row _ _ _ _
          clear hw4 hhs hh1
          have HROW4 := Lib.hid (HROW3.out.below hb4)
          have HB4 := Lib.hid (below_chain HB3.out hb4 HB3.out.size)
          have HW3 := Lib.hid HB3.out.size
          have HGL := Lib.hid hgl3
          have XH := Lib.hid xh
          clear HROW3 HB3 hb4 xh hgl3 hgl HB hbs
          go_wp2
          obtain ⟨wp, rfl⟩ : ∃ wp : World, wp = wr := ⟨_, rfl⟩
          go_loopw [7] (fun i wr => ∃ k : Nat, 64 * k ≤ m2 ∧ i = .int .i64 (64 * (k : Int)) ∧ RowM wr w.heap.size 5 (.slice (some ⟨g, 0, none⟩) m2 cp) (Lib.byteCells pad) ∧ wr.heap[w3.heap.size]? = some (.cells ((blocksH h0Sha pad k).words.map wV).toArray 205 (0, 0)) ∧ Below w.heap.size w wr) (fun i _ => m2 + 64 - (intOf i).toNat)
          case atStart => exact ⟨0, Nat.zero_le _, rfl, HROW4.out, XH.out, HB4.out⟩
          case round =>
            clear HROW4 XH HB4
            obtain ⟨k, hk, rfl, hrow, hxh, hB⟩ := hrel
            have HROW := Lib.hid hrow
            have HXH := Lib.hid hxh
            have HB := Lib.hid hB
            have h64 := HP64.out
            have hb3h := heap_lt hxh
            have hszw := hB.size
            clear hrow hxh hB
            by_cases h1 : 64 * k < m2
            · have h1' : 64 * (k : Int) < (m2 : Int) := by omega
              have hkm : 64 * k + 64 ≤ m2 := by omega
              have hbl := blk_len (l := pad) (k := k) (by have := HM8.out; omega) (by have := HM8.out; omega)
              have HBE := Lib.hid (fun j (hj : j < 64) => blk_at (l := pad) (k := k) hj (by have := HM8.out; omega))
              have HBK := Lib.hid (show blocksH h0Sha pad (k + 1) = blockH (blocksH h0Sha pad k) ((pad.drop (64 * k)).take 64) from rfl)
              have hok := blocksH_ok h0_ok pad k
              generalize (pad.drop (64 * k)).take 64 = blk at *
              generalize blocksH h0Sha pad k = hv at *
              go_upto_region 14 with fail
              generalize hwq : World.alloc _ _ = wq
              have hxq : wq.heap[wr.heap.size]? = some (.cells (cellsBy 64 (blk.take 0)) 207 (0, 0)) := by
                rw [← hwq, heap_alloc_new]
                rfl
              have hbq : Below wr.heap.size wr wq := by
                rw [← hwq]
                exact (Below.refl _ _).alloc (Nat.le_refl _) _
              clear hwq
              have HROWQ := Lib.hid (HROW.out.below hbq)
              have HXHQ := Lib.hid ((hbq.block _ (heap_lt HXH.out)).trans HXH.out)
              have HBQ := Lib.hid (below_chain HB.out hbq HB.out.size)
              have HGW := Lib.hid (show g < wr.heap.size by have := HGL.out; omega)
              clear HROW HXH HB hbq
              obtain ⟨wl, rfl⟩ : ∃ wl : World, wl = wr := ⟨_, rfl⟩
              go_wp2
              go_loopw [9] (fun i w' => ∃ j : Nat, j ≤ 64 ∧ i = .int .i64 (j : Int) ∧ w'.heap[wl.heap.size]? = some (.cells (cellsBy 64 (blk.take j)) 207 (0, 0)) ∧ Gro wl.heap.size wq w') (fun i _ => 64 - (intOf i).toNat)
              case atStart => exact ⟨0, Nat.zero_le _, rfl, hxq, gro_of (Below.refl _ _)⟩
              case round =>
                clear hxq
                obtain ⟨j, hj, rfl, hx, hG⟩ := hrel
                have HROWR := Lib.hid (HROWQ.out.kept hG (by have := HGW.out; omega))
                by_cases h2 : j < 64
                · have h2' : (j : Int) < 64 := by omega
                  have hjm : 64 * k + j < pad.length := by have := HM8.out; omega
                  have hbj := HBE.out j h2
                  have ec : (Lib.byteCells pad)[64 * k + j]? = some (.int .u8 ((pad[64 * k + j]).toNat : Nat)) := by simp [Lib.byteCells, hjm]
                  have hcell := HROWR.out.cell ec
                  have HTS := Lib.hid (take_snoc' hbj)
                  generalize pad[64 * k + j] = c at *
                  have hjt : (blk.take j).length = j := by rw [List.length_take]; omega
                  have hq1 : (64 * (k : Int) + (j : Int)) < (m2 : Int) := by omega
                  have hq2 : 0 ≤ (64 * (k : Int) + (j : Int)) := by omega
                  have hq3 : (64 * (k : Int) + (j : Int)).toNat = 64 * k + j := by omega
                  have cz := arr_cell hx (cellsBy_zero (n := 64) (ws := blk.take j) (i := j) (by omega) (by omega))
                  have sz := is_some cz
                  have fz := arr_frozen (i := j) hx
                  have HX := Lib.hid hx
                  have HG := Lib.hid hG
                  have HJT := Lib.hid hjt
                  clear ec hbj hx hG hjt hjm
                  go_wp2
                  go_roundw
                  case rel =>
                    refine ⟨j + 1, by omega, by go_num, ?_, gro_set HG.out _ _⟩
                    rw [HTS.out]
                    have hpu := arr_pushB (x := c) HX.out (by have := HJT.out; omega)
                    rw [HJT.out] at hpu
                    exact hpu
                  case measure => simp [intOf]; omega
                · obtain rfl : j = 64 := by omega
                  rw [List.take_of_length_le (by omega), cellsBy_all hbl] at hx
                  have hxh := (hG.block _ (heap_lt HXHQ.out) (fun e => by have := Option.some.inj e; omega)).trans HXHQ.out
                  have hBr := HBQ.out.trans (gro_below hG hszw HBQ.out.size)
                  have hsb : (Tryz.prog.info? 207).map (·.size) = some (blk.map bV).toArray.size := by
                    simp only [List.size_toArray, List.length_map, hbl]
                    kernel_rfl
                  have hsh : (Tryz.prog.info? 205).map (·.size) = some ((hv.words.map wV).toArray).size := by kernel_rfl
                  have CB := rblock_walk hv hok blk hbl wr
                  obtain ⟨hn, hhn⟩ : ∃ hn, blockH hv blk = hn := ⟨_, rfl⟩
                  rw [hhn] at CB HBK
                  clear hhn
                  have HX := Lib.hid hx
                  have HXH := Lib.hid hxh
                  have HB := Lib.hid hBr
                  rw [show ((64 : Nat) : Int) = 64 from rfl]
                  clear hG hBr hj h2
                  go_upto_region 18 with fail
                  apply wp_region_lit
                  refine wpList_load_row rfl 205 _ rfl w3.heap.size rfl 205 _ _ _ HXH.out Tryz.underlying205 rfl hsh ?_
                  refine wpList_load_row rfl 207 _ rfl wl.heap.size rfl 207 _ _ _ HX.out Tryz.underlying207 rfl hsb ?_
                  clear hx hxh hsb hsh
                  go_wp2_with fail
                  refine CB.mono ?_
                  rintro e w5 ⟨rfl, hb5⟩
                  have hxh5 := (hb5.block _ (heap_lt HXH.out)).trans HXH.out
                  have HROW5 := Lib.hid (HROWR.out.below hb5)
                  have HB5 := Lib.hid (below_chain HB.out hb5 HB.out.size)
                  have hso : (hv.words.map wV).toArray.size = (hn.words.map wV).toArray.size := rfl
                  have hs8 : (Tryz.prog.info? 205).map (·.size) = some ((hn.words.map wV).toArray).size := by kernel_rfl
                  have ho8 := one_map (f := wV) (fun _ => rfl) hn.words
                  clear hb5 CB
                  go_upto_region 12 with (refine wpList_store_row rfl 205 _ _ rfl w3.heap.size (hn.words.map wV).toArray rfl rfl 205 _ hxh5 hs8 hso ho8 ?_; simp only [Act.put])
                  generalize hw6 : World.setRow _ _ _ = w6
                  have HXH6 : Hid (w6.heap[w3.heap.size]? = some (.cells ((blocksH h0Sha pad (k + 1)).words.map wV).toArray 205 (0, 0))) := Lib.hid (by
                    rw [← hw6, HBK.out]
                    exact setRow_heap w5 _ _ _ _ _ hxh5)
                  have HROW6 : Hid (RowM w6 w.heap.size 5 (.slice (some ⟨g, 0, none⟩) m2 cp) (Lib.byteCells pad)) := Lib.hid (by
                    rw [← hw6]
                    exact HROW5.out.kept (k := w3.heap.size) ⟨rfl, rfl, rfl, by simp, fun q hq hne => setRow_other _ _ _ _ (fun e => hne (by rw [e]))⟩ (by have := HGL.out; omega))
                  have HB6 : Hid (Below w.heap.size w w6) := Lib.hid (by
                    rw [← hw6]
                    exact below_setRow HB5.out HW3.out _)
                  clear hw6 hxh5 hso hs8 ho8 HROW5 HB5 HBK
                  go_wp2
                  go_roundw
                  case rel => exact ⟨k + 1, by omega, congrArg (Value.int IntKind.i64) (by omega), HROW6.out, HXH6.out, HB6.out⟩
                  case measure => simp [intOf]; omega
            · have hkm : k = m2 / 64 := by omega
              have h1' : ¬ (64 * (k : Int) < (m2 : Int)) := by omega
              rw [← hkm] at HSH
              have hok := blocksH_ok h0_ok pad k
              generalize blocksH h0Sha pad k = R at *
              have HSW := Lib.hid (show shaF s = R.words.flatMap wordBytes from HSH.out)
              clear HSH HROW hkm h1 hk h64
              go_wp2
              obtain ⟨wk, rfl⟩ : ∃ wk : World, wk = wr := ⟨_, rfl⟩
              go_loopw [11, 10] (fun i v w' => ∃ j : Nat, j ≤ 8 ∧ i = .int .i64 (j : Int) ∧ w'.ownsRow w.heap.size 5 1 v ((R.words.take j).flatMap wordBytes).length (Lib.byteCells ((R.words.take j).flatMap wordBytes)) ∧ w'.heap[w3.heap.size]? = some (.cells (R.words.map wV).toArray 205 (0, 0)) ∧ Below w.heap.size w w' ∧ (∀ b, v.ownBlock = some b → b ≠ w3.heap.size)) (fun i _ _ => 8 - (intOf i).toNat)
              case atStart => exact ⟨0, Nat.zero_le _, rfl, World.ownsRow_nil _ _ _ _, HXH.out, HB.out, by intro b hb; cases hb⟩
              case round =>
                clear HXH HB hb3h hszw
                obtain ⟨j, hj, rfl, hown, hxh, hB, hob⟩ := hrel
                by_cases h2 : j < 8
                · have h2' : (j : Int) < 8 := by omega
                  have hjl : j < R.words.length := h2
                  have hc := arr_cell hxh (map_at (f := wV) hjl)
                  have HT := Lib.hid (flat_snoc hjl)
                  have hfl : ((R.words.take j).flatMap wordBytes).length ≤ 100 := by rw [wordBytes_flat, List.length_take]; omega
                  generalize R.words[j] = x at *
                  unfold wV at hc
                  generalize hfw : (R.words.take j).flatMap wordBytes = out at *
                  obtain ⟨wd, hwd, r9, hown9, hxh9, hB9⟩ : ∃ wd : World, wd = { wr with drawn := wr.drawn + 1 } ∧ wd.cell? ⟨w3.heap.size, j, none⟩ = some (.int .u32 ((x : Nat) : Int)) ∧ wd.ownsRow w.heap.size 5 1 u10 out.length (Lib.byteCells out) ∧ wd.heap[w3.heap.size]? = some (.cells (R.words.map wV).toArray 205 (0, 0)) ∧ Below w.heap.size w wd :=
                    ⟨_, rfl, hc, own_on hown ⟨rfl, rfl, rfl, Nat.le_refl _, fun _ _ => rfl⟩, hxh, ⟨hB.os, hB.tape, hB.output, hB.size, hB.block⟩⟩
                  have HLT := Lib.hid (fun vb (h : u10.ownBlock = some vb) => (hown9.lt vb h).2)
                  obtain ⟨cs, hcs⟩ : ∃ cs : List Value, cs = [.int .u8 (IntKind.u8.wrap ((x : Int) / 16777216)), .int .u8 (IntKind.u8.wrap ((x : Int) / 65536)), .int .u8 (IntKind.u8.wrap ((x : Int) / 256)), .int .u8 (IntKind.u8.wrap (x : Int))] := ⟨_, rfl⟩
                  have hcs2 : Lib.byteCells (wordBytes x) = cs := by
                    rw [hcs]
                    simp only [Lib.byteCells, wordBytes, List.map_cons, List.map_nil, ofNat_nat, IntKind.wrap_u8]
                    rfl
                  have HCS := Lib.hid hcs
                  have HCS2 := Lib.hid hcs2
                  have r10 := cell_old r9 (.cells #[.int .u8 (IntKind.u8.wrap ((x : Int) / 16777216)), .int .u8 (IntKind.u8.wrap ((x : Int) / 65536)), .int .u8 (IntKind.u8.wrap ((x : Int) / 256)), .int .u8 (IntKind.u8.wrap (x : Int))] 5)
                  have HR10 := Lib.hid r10
                  have HO10 := Lib.hid (hown9.alloc (.cells #[.int .u8 (IntKind.u8.wrap ((x : Int) / 16777216)), .int .u8 (IntKind.u8.wrap ((x : Int) / 65536)), .int .u8 (IntKind.u8.wrap ((x : Int) / 256)), .int .u8 (IntKind.u8.wrap (x : Int))] 5))
                  have HX10 := Lib.hid ((Below.heap_alloc wd (.cells #[.int .u8 (IntKind.u8.wrap ((x : Int) / 16777216)), .int .u8 (IntKind.u8.wrap ((x : Int) / 65536)), .int .u8 (IntKind.u8.wrap ((x : Int) / 256)), .int .u8 (IntKind.u8.wrap (x : Int))] 5) _ (heap_lt hxh9)).trans hxh9)
                  have HB10 := Lib.hid (hB9.alloc hB9.size (.cells #[.int .u8 (IntKind.u8.wrap ((x : Int) / 16777216)), .int .u8 (IntKind.u8.wrap ((x : Int) / 65536)), .int .u8 (IntKind.u8.wrap ((x : Int) / 256)), .int .u8 (IntKind.u8.wrap (x : Int))] 5))
                  have HNC : Hid (∀ (q : Nat) u, cs[q]? = some u → (wd.alloc (.cells #[.int .u8 (IntKind.u8.wrap ((x : Int) / 16777216)), .int .u8 (IntKind.u8.wrap ((x : Int) / 65536)), .int .u8 (IntKind.u8.wrap ((x : Int) / 256)), .int .u8 (IntKind.u8.wrap (x : Int))] 5)).cell? ((⟨wd.heap.size, 0, none⟩ : Addr).add q) = some u) := Lib.hid (by
                    intro q u hq
                    rw [Addr.add_lit, Nat.zero_add]
                    refine cell_new _ _ _ _ ?_
                    rw [hcs] at hq
                    simpa using hq)
                  have HONE : Hid (∀ u ∈ cs, u.oneCell' = true) := Lib.hid (by rw [hcs]; intro u hu; simp at hu; rcases hu with rfl | rfl | rfl | rfl <;> rfl)
                  have HSZ9 := Lib.hid hB9.size
                  have HOB := Lib.hid hob
                  have HCL := Lib.hid (show cs.length = 4 by rw [hcs]; rfl)
                  clear hown hxh hB hob hjl hfw hc hown9 hxh9 hB9 hcs hcs2 r10
                  go_upto_region 23 with fail
                  (refine wp_region_held (S := fun w' => w'.cell? ⟨w3.heap.size, j, none⟩ = some (.int .u32 ((x : Nat) : Int))) (by kernel_rfl) ?_)
                  rw [← hwd]
                  clear hwd
                  (refine wpAnyH_take (i := 0) (v := ?_) rfl (by kernel_rfl) (by kernel_rfl) (by kernel_rfl) (fun _ _ _ h => h) (Or.inl ⟨by rfl, ?_⟩) (by exact r9) ?_; rotate_left; (intro w9 hS9; skip; go_simp; try with_reducible rfl))
                  (refine wpAnyH_take (i := 1) (v := ?_) rfl (by kernel_rfl) (by kernel_rfl) (by kernel_rfl) (fun _ _ _ h => h) (Or.inl ⟨by rfl, ?_⟩) (by exact r9) ?_; rotate_left; (intro w9 hS9; skip; go_simp; try with_reducible rfl))
                  (refine wpAnyH_take (i := 2) (v := ?_) rfl (by kernel_rfl) (by kernel_rfl) (by kernel_rfl) (fun _ _ _ h => h) (Or.inl ⟨by rfl, ?_⟩) (by exact r9) ?_; rotate_left; (intro w9 hS9; skip; go_simp; try with_reducible rfl))
                  (refine wpAnyH_take (i := 3) (v := ?_) rfl (by kernel_rfl) (by kernel_rfl) (by kernel_rfl) (fun _ _ _ h => h) (Or.inl ⟨by rfl, ?_⟩) (by exact r9) ?_; rotate_left; (intro w9 hS9; (replace hS9 : w9.cell? ⟨w3.heap.size, j, none⟩ = some (.int .u32 ((x : Nat) : Int)) := hS9); go_simp; try with_reducible rfl))
                  (refine wpAnyH_take (i := 4) (v := ?_) rfl (by kernel_rfl) (by kernel_rfl) (by kernel_rfl) (fun _ _ _ h => h) (Or.inl ⟨by rfl, ?_⟩) (by exact r9) ?_; rotate_left; (intro w9 hS9; skip; go_simp; try with_reducible rfl))
                  go_simp
                  (refine wpAnyH_take (i := 5) (v := ?_) rfl (by kernel_rfl) (by kernel_rfl) (by kernel_rfl) (fun _ _ _ h => h) (Or.inl ⟨by rfl, ?_⟩) (by exact r9) ?_; rotate_left; (intro w9 hS9; skip; go_simp; try with_reducible rfl))
                  (refine wpAnyH_take (i := 6) (v := ?_) rfl (by kernel_rfl) (by kernel_rfl) (by kernel_rfl) (fun _ _ _ h => h) (Or.inl ⟨by rfl, ?_⟩) (by exact r9) ?_; rotate_left; (intro w9 hS9; skip; go_simp; try with_reducible rfl))
                  (refine wpAnyH_take (i := 7) (v := ?_) rfl (by kernel_rfl) (by kernel_rfl) (by kernel_rfl) (fun _ _ _ h => h) (Or.inl ⟨by rfl, ?_⟩) (by exact r9) ?_; rotate_left; (intro w9 hS9; skip; go_simp; try with_reducible rfl))
                  (refine wpAnyH_take (i := 8) (v := ?_) rfl (by kernel_rfl) (by kernel_rfl) (by kernel_rfl) (fun _ _ _ h => h) (Or.inl ⟨by rfl, ?_⟩) (by exact r9) ?_; rotate_left; (intro w9 hS9; (replace hS9 : w9.cell? ⟨w3.heap.size, j, none⟩ = some (.int .u32 ((x : Nat) : Int)) := hS9); go_simp; try with_reducible rfl))
                  (refine wpAnyH_take (i := 9) (v := ?_) rfl (by kernel_rfl) (by kernel_rfl) (by kernel_rfl) (fun _ _ _ h => h) (Or.inl ⟨by rfl, ?_⟩) (by exact r9) ?_; rotate_left; (intro w9 hS9; skip; go_simp; try with_reducible rfl))
                  go_simp
                  (refine wpAnyH_take (i := 10) (v := ?_) rfl (by kernel_rfl) (by kernel_rfl) (by kernel_rfl) (fun _ _ _ h => h) (Or.inl ⟨by rfl, ?_⟩) (by exact r9) ?_; rotate_left; (intro w9 hS9; skip; go_simp; try with_reducible rfl))
                  (refine wpAnyH_take (i := 11) (v := ?_) rfl (by kernel_rfl) (by kernel_rfl) (by kernel_rfl) (fun _ _ _ h => h) (Or.inl ⟨by rfl, ?_⟩) (by exact r9) ?_; rotate_left; (intro w9 hS9; skip; go_simp; try with_reducible rfl))
                  (refine wpAnyH_take (i := 12) (v := ?_) rfl (by kernel_rfl) (by kernel_rfl) (by kernel_rfl) (fun _ _ _ h => h) (Or.inl ⟨by rfl, ?_⟩) (by exact r9) ?_; rotate_left; (intro w9 hS9; skip; go_simp; try with_reducible rfl))
                  (refine wpAnyH_take (i := 13) (v := ?_) rfl (by kernel_rfl) (by kernel_rfl) (by kernel_rfl) (fun _ _ _ h => h) (Or.inl ⟨by rfl, ?_⟩) (by exact r9) ?_; rotate_left; (intro w9 hS9; (replace hS9 : w9.cell? ⟨w3.heap.size, j, none⟩ = some (.int .u32 ((x : Nat) : Int)) := hS9); go_simp; try with_reducible rfl))
                  (refine wpAnyH_take (i := 14) (v := ?_) rfl (by kernel_rfl) (by kernel_rfl) (by kernel_rfl) (fun _ _ _ h => h) (Or.inl ⟨by rfl, ?_⟩) (by exact r9) ?_; rotate_left; (intro w9 hS9; skip; go_simp; try with_reducible rfl))
                  go_simp
                  (refine wpAnyH_take (i := 15) (v := ?_) rfl (by kernel_rfl) (by kernel_rfl) (by kernel_rfl) (fun _ _ _ h => h) (Or.inl ⟨by rfl, ?_⟩) (by exact r9) ?_; rotate_left; (intro w9 hS9; skip; go_simp; try with_reducible rfl))
                  (refine wpAnyH_take (i := 16) (v := ?_) rfl (by kernel_rfl) (by kernel_rfl) (by kernel_rfl) (fun _ _ _ h => h) (Or.inl ⟨by rfl, ?_⟩) (by exact r9) ?_; rotate_left; (intro w9 hS9; skip; go_simp; try with_reducible rfl))
                  (refine wpAnyH_take (i := 17) (v := ?_) rfl (by kernel_rfl) (by kernel_rfl) (by kernel_rfl) (fun _ _ _ h => h) (Or.inl ⟨by rfl, ?_⟩) (by exact r9) ?_; rotate_left; (intro w9 hS9; skip; go_simp; try with_reducible rfl))
                  (refine wpAnyH_take (i := 18) (v := ?_) rfl (by kernel_rfl) (by kernel_rfl) (by kernel_rfl) (fun _ _ _ h => h) (Or.inl ⟨by rfl, ?_⟩) (by exact r9) ?_; rotate_left; (intro w9 hS9; (replace hS9 : w9.cell? ⟨w3.heap.size, j, none⟩ = some (.int .u32 ((x : Nat) : Int)) := hS9); go_simp; try with_reducible rfl))
                  (refine wpAnyH_take (i := 19) (v := ?_) rfl (by kernel_rfl) (by kernel_rfl) (by kernel_rfl) (fun _ _ _ h => h) (Or.inl ⟨by rfl, ?_⟩) (by exact r9) ?_; rotate_left; (intro w9 hS9; skip; go_simp; try with_reducible rfl))
                  go_simp
                  (refine wpAnyH_one (i := 20) (by kernel_rfl) rfl (fun K hK => ?_); go_simp; refine hK _ _ (HR10.out) ?_; clear hK K)
                  refine wpAnyH_one (i := 21) (by kernel_rfl) rfl (fun K hK => ?_)
                  rw [if_pos (by rfl)]
                  refine wp_append_own _ (.tmp 66) (.tmp 86) 113 rfl w.heap.size 5 i0 (.int .u8 0) 1 1 Tryz.underlying113 hi hz0 hz1 hz2 rfl (by decide) u10 out.length (Lib.byteCells out) rfl HO10.out ⟨wd.heap.size, 0, none⟩ 4 4 cs rfl (by rw [HCL.out]) HNC.out HONE.out (by unfold maxLen; omega) (by omega) (by have := HSZ9.out; simp; omega) ?_
                  intro v' w5 hown5 hgrow _
                  have HB5 : Hid (Below w.heap.size w w5) := Lib.hid (HB10.out.grown hgrow (by have := HSZ9.out; simp; omega) (fun q hq => (HO10.out.lt q hq).1))
                  have HO5 : Hid (w5.ownsRow w.heap.size 5 1 v' ((R.words.take (j + 1)).flatMap wordBytes).length (Lib.byteCells ((R.words.take (j + 1)).flatMap wordBytes))) := Lib.hid (by
                    rw [HT.out, byteCells_app, HCS2.out, List.length_append]
                    exact hown5)
                  have hne : some w3.heap.size ≠ u10.ownBlock := fun e => HOB.out _ e.symm rfl
                  have HX5 := Lib.hid ((hgrow.block w3.heap.size (heap_lt HX10.out) hne).trans HX10.out)
                  have hr5 : w5.cell? ⟨w3.heap.size, j, none⟩ = some (.int .u32 ((x : Nat) : Int)) := (World.cell?_of_block (hgrow.block w3.heap.size (lt_of_cell HR10.out) hne)).trans HR10.out
                  have HOB5 : Hid (∀ b, v'.ownBlock = some b → b ≠ w3.heap.size) := Lib.hid (by
                    intro q hq e
                    rcases HO5.out.2 with ⟨h0, _⟩ | ⟨g5, cap5, cur5, hv5, _, hg5, _⟩
                    · rw [h0] at hq
                      cases hq
                    · rw [hv5] at hq
                      have hq2 : g5 = q := Option.some.inj hq
                      rw [hq2, e, HX5.out] at hg5
                      have h3 := Option.some.inj hg5
                      injection h3 with _ h4 _
                      exact absurd h4 (by decide))
                  refine hK _ _ hr5 ?_
                  clear hK K hgrow hown5 hne
                  (refine wpAnyH_one (i := 22) (by kernel_rfl) rfl (fun K hK => ?_); go_simp; refine hK _ _ (hr5) ?_; clear hK K)
                  (refine wpAnyH_done (by kernel_rfl) ?_ _)
                  go_wp2
                  go_roundw
                  case rel => exact ⟨j + 1, by omega, by go_num, HO5.out, HX5.out, HB5.out, HOB5.out⟩
                  case measure => simp [intOf]; omega
                · obtain rfl : j = 8 := by omega
                  rw [show (R.words.take 8).flatMap wordBytes = shaF s by rw [HSW.out]; rfl] at hown
                  have hcv2 := bytes_back hown
                  have HB := Lib.hid hB
                  clear hown hxh hB hob h2
                  rw [show ((8 : Nat) : Int) = 8 from rfl]
                  go_wp2
                  go_ret
                  exact ⟨rfl, HB.out⟩
    · have h56' : ((m : Int) % 64 == 56) = false := by rw [beq_eq_false_iff_ne]; omega
      have h56n : (!((m : Int) % 64 == 56)) = true := by rw [h56']; rfl
      have h56m : ((m : Int) % 64 != 56) = true := by rw [bne, h56']; rfl
      have hzs := zerosN_succ h56
      have HZS := Lib.hid hzs
      have HM := Lib.hid hm
      obtain ⟨ys, hys⟩ : ∃ ys, s ++ [128] ++ List.replicate j 0 = ys := ⟨_, rfl⟩
      have HYS := Lib.hid (show s ++ [128] ++ List.replicate (j + 1) 0 = ys ++ [0] by rw [List.replicate_succ', ← List.append_assoc, hys])
      rw [hys] at HROW HLEN
      clear h56 hzs hm hys
      go_wp2_with (at_builtin; refine wpList_append_rowm _ rfl _ _ 113 rfl 5 i0 (.int .u8 0) 1 Tryz.underlying113 hi hz0 hz1 hz2 rfl w.heap.size _ _ rfl (HROW.out.below ((Below.refl _ _).alloc (Nat.le_refl _) _)) ⟨wr.heap.size, 0, none⟩ 1 1 [.int .u8 0] rfl rfl (new_cell _ _ _) (by intro u hu; simp at hu; subst hu; rfl) (by rw [HLEN.out]; unfold maxLen; omega) (by rw [HLEN.out]; omega) (by simp; omega) ?_)
      intro v3 w3 hrow3 hb3
      have HB3 := Lib.hid ((HB.out.trans ((Below.refl w.heap.size wr).alloc hbs _)).trans hb3)
      have hrow4 : RowM w3 w.heap.size 5 v3 (Lib.byteCells (s ++ [128] ++ List.replicate (j + 1) 0)) := by
        rw [HYS.out, byteCells_app]
        exact hrow3
      obtain ⟨g3, cp3, hv3, -⟩ := hrow4.slice
      have HR4 := Lib.hid hrow4
      have hsl : sliceLen v3 = m + 1 := by
        rw [hv3]
        show (Lib.byteCells _).length = _
        rw [byteCells_len]
        simp only [List.length_append, List.length_replicate, List.length_singleton]
        have := HM.out
        omega
      have HSL := Lib.hid hsl
      clear hrow3 hb3 hrow4 hv3 hsl
      go_wp2
      go_roundw
      case rel => exact ⟨j + 1, HR4.out, by have h1 := HJ.out; have h2 := HZS.out; have h3 := HM.out; rw [h1, h2, show s.length + 1 + (j + 1) = m + 1 by omega]; omega, HB3.out⟩
      case measure =>
        show zerosN (sliceLen v3) < zerosN m
        rw [HSL.out, HZS.out]
        omega
end Go.Proofs.YtaompdnnkfmjhaaGreatDoor
