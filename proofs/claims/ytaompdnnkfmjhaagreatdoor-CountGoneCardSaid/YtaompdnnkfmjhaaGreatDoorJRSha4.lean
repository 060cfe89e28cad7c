/- The reference's sum of a text. The reference's rolling hashes, and where it cuts. -/
import Derived.Test.YtaompdnnkfmjhaaGreatDoorJRSha3
import Derived.Test.YtaompdnnkfmjhaaGreatDoorJAny
import Derived.Test.YtaompdnnkfmjhaaGreatDoorJCdcPlain
import Derived.Test.YtaompdnnkfmjhaaGreatDoorJMapI
import Derived.Test.YtaompdnnkfmjhaaGreatDoorJCList
import Derived.Deep.Cut
import Derived.Deep.RegionWith
namespace Go.Proofs.YtaompdnnkfmjhaaGreatDoor
open Go.RowKit

theorem byteCells_app (a b : List UInt8) : Lib.byteCells (a ++ b) = Lib.byteCells a ++ Lib.byteCells b := by simp [Lib.byteCells]
theorem byteCells_len (a : List UInt8) : (Lib.byteCells a).length = a.length := by simp [Lib.byteCells]

def sliceLen : Value → Nat
  | .slice _ n _ => n
  | _ => 0

set_option maxHeartbeats 8000000 in
set_option maxRecDepth 100000 in
theorem rsha_walk (s : List UInt8) (w : World) (hs : s.length ≤ 1100000) :
    Calls Tryz.prog 113 #[S s] w fun e w' => e = .returned (S (shaF s)) ∧ Below w.heap.size w w' := by
  obtain ⟨i0, hi, hz0, hz1, hz2⟩ := info_parts infoByte
  obtain ⟨v0, w1, hcv, hrow, hb1⟩ := conv_row (P := Tryz.prog) w 9 113 5 s hs Tryz.underlying9 Tryz.underlying113 Tryz.underlying5
  have hlw : IntKind.u64.wrap (s.length : Int) = (s.length : Int) := by simp only [IntKind.wrap, IntKind.bits, IntKind.signed]; simp; omega
  obtain ⟨g0, cp0, hv0, -⟩ := hrow.slice
  have HROW := Lib.hid hrow
  clear hrow
  subst hv0
  rw [byteCells_len] at hcv HROW
  go_enter Tryz.func113, Tryz.ntmps113
  go_wp2_with (at_builtin; refine wpList_append_rowm _ rfl _ _ 113 rfl 5 i0 (.int .u8 0) 1 Tryz.underlying113 hi hz0 hz1 hz2 rfl w.heap.size _ (Lib.byteCells s) rfl (HROW.out.below ((Below.refl _ _).alloc (Nat.le_refl _) _)) ⟨w1.heap.size, 0, none⟩ 1 1 [.int .u8 128] rfl rfl (new_cell _ _ _) (by intro u hu; simp at hu; subst hu; rfl) (by rw [byteCells_len]; unfold maxLen; omega) (by rw [byteCells_len]; omega) (by have := hb1.size; simp; omega) ?_)
  intro v2 w2 hrow2 hb2
  have HB2 := Lib.hid ((hb1.trans ((Below.refl w.heap.size w1).alloc hb1.size _)).trans hb2)
  have HROW2 : Hid (RowM w2 w.heap.size 5 v2 (Lib.byteCells (s ++ [128]))) := Lib.hid (by rw [byteCells_app]; exact hrow2)
  clear hrow2 hb2 hcv HROW hb1 hlw
  go_wp2
  go_loopw [4] (fun v wr => ∃ j : Nat, RowM wr w.heap.size 5 v (Lib.byteCells (s ++ [128] ++ List.replicate j 0)) ∧ zerosN (s.length + 1) = zerosN (s.length + 1 + j) + j ∧ Below w.heap.size w wr) (fun v _ => zerosN (sliceLen v))
  case atStart => exact ⟨0, by simpa using HROW2.out, rfl, HB2.out⟩
  case round =>
    obtain ⟨j, hrow, hj, hB⟩ := hrel
    have hzl := zerosN_lt (s.length + 1)
    obtain ⟨g, cp, hv, -⟩ := hrow.slice
    subst hv
    have hlen : (Lib.byteCells (s ++ [128] ++ List.replicate j 0)).length = s.length + 1 + j := by rw [byteCells_len]; simp only [List.length_append, List.length_replicate, List.length_singleton]
    rw [hlen] at hrow
    have HROW := Lib.hid hrow
    have HJ := Lib.hid hj
    have HB := Lib.hid hB
    have HLEN := Lib.hid hlen
    have hjl : j < 64 := by omega
    have hbs := hB.size
    clear hrow hj hB
    rw [hlen]
    obtain ⟨m, hm⟩ : ∃ m, s.length + 1 + j = m := ⟨_, rfl⟩
    rw [hm] at HROW HJ HLEN ⊢
    clear hlen
    have hml : m ≤ 2000000 := by omega
    by_cases h56 : m % 64 = 56
    · have h56' : ((m : Int) % 64 == 56) = true := by rw [beq_iff_eq]; omega
      have h56n : (!((m : Int) % 64 == 56)) = false := by rw [h56']; rfl
      have h56m : ((m : Int) % 64 != 56) = false := by rw [bne, h56']; rfl
      have hz0 := zerosN_zero h56
      have hpz : s ++ [128] ++ List.replicate j 0 = padZ s := by
        have hj2 := HJ.out
        unfold padZ
        rw [hj2, hz0, Nat.zero_add]
      rw [hpz] at HROW HLEN
      clear HJ hz0 h56 hpz
      go_wp2
      obtain ⟨wo, rfl⟩ : ∃ wo : World, wo = wr := ⟨_, rfl⟩
      go_loopw [4, 5] (fun v i w' => ∃ j : Nat, j ≤ 8 ∧ i = .int .i64 (7 - (j : Int)) ∧ RowM w' w.heap.size 5 v (Lib.byteCells (padZ s ++ (bytes8 (s.length * 8)).take j)) ∧ Below w.heap.size w w') (fun _ i _ => (intOf i + 1).toNat)
      case atStart => exact ⟨0, Nat.zero_le _, rfl, by rw [List.take_zero, List.append_nil]; exact HROW.out, HB.out⟩
      case round =>
        clear HROW HB hbs
        obtain ⟨i, hi8, rfl, hrow, hB⟩ := hrel
        obtain ⟨g, cp, hv, hgB, hgl, -⟩ := hrow.slice
        subst hv
        have hpl := padZ_le s
        have hlen : (Lib.byteCells (padZ s ++ (bytes8 (s.length * 8)).take i)).length = (padZ s).length + i := by
          rw [byteCells_len, List.length_append, List.length_take]
          show _ + min i 8 = _
          omega
        rw [hlen] at hrow ⊢
        have HROW := Lib.hid hrow
        have HB := Lib.hid hB
        have hbs := hB.size
        obtain ⟨m2, hm2⟩ : ∃ m2, (padZ s).length + i = m2 := ⟨_, rfl⟩
        have HM2 := Lib.hid hm2
        rw [hm2] at HROW hlen ⊢
        have HLEN2 := Lib.hid hlen
        have hm2l : m2 ≤ 2000000 := by omega
        clear hrow hB hlen hm2
        by_cases h1 : i < 8
        · have h1' : 0 ≤ 7 - (i : Int) := by omega
          have h4' : (i : Int) ≤ 7 := by omega
          have hw8 : IntKind.u64.wrap (8 * (7 - (i : Int))) = 8 * (7 - (i : Int)) := by simp only [IntKind.wrap, IntKind.bits, IntKind.signed]; simp; omega
          have h3' : (8 * (7 - (i : Int))).toNat = 56 - 8 * i := by omega
          have hii : i < (bytes8 (s.length * 8)).length := h1
          have HT := Lib.hid (List.take_succ_eq_append_getElem hii)
          obtain ⟨c, hc⟩ : ∃ c, (bytes8 (s.length * 8))[i] = c := ⟨_, rfl⟩
          have hcn := bytes8_at (s.length * 8) i hii
          rw [hc] at HT hcn
          have hci : ((s.length : Int) * 8 / 2 ^ (56 - 8 * i) % 256) = ((c.toNat : Nat) : Int) := by rw [hcn, Int.natCast_emod, Int.natCast_ediv, Int.natCast_mul, Int.natCast_pow]; rfl
          obtain ⟨ys, hys⟩ : ∃ ys, padZ s ++ (bytes8 (s.length * 8)).take i = ys := ⟨_, rfl⟩
          have HYS := Lib.hid (show padZ s ++ (bytes8 (s.length * 8)).take (i + 1) = ys ++ [c] by rw [HT.out, ← List.append_assoc, hys])
          rw [hys] at HROW HLEN2
          clear hc hii hcn HT hys
          go_wp2_with (at_builtin; refine wpList_append_rowm _ rfl _ _ 113 rfl 5 i0 (.int .u8 0) 1 Tryz.underlying113 hi hz0 hz1 hz2 rfl w.heap.size _ _ rfl (HROW.out.below ((Below.refl _ _).alloc (Nat.le_refl _) _)) ⟨wr.heap.size, 0, none⟩ 1 1 [.int .u8 ((c.toNat : Nat) : Int)] rfl rfl (new_cell _ _ _) (by intro u hu; simp at hu; subst hu; rfl) (by rw [HLEN2.out]; unfold maxLen; omega) (by rw [HLEN2.out]; omega) (by simp; omega) ?_)
          intro v3 w3 hrow3 hb3
          have HB3 := Lib.hid ((HB.out.trans ((Below.refl w.heap.size wr).alloc hbs _)).trans hb3)
          have HR4 : Hid (RowM w3 w.heap.size 5 v3 (Lib.byteCells (padZ s ++ (bytes8 (s.length * 8)).take (i + 1)))) := Lib.hid (by
            rw [HYS.out, byteCells_app]
            exact hrow3)
          clear hrow3 hb3 hci hw8
          go_wp2
          go_roundw
          case rel => exact ⟨i + 1, by omega, congrArg (Value.int IntKind.i64) (by omega), HR4.out, HB3.out⟩
          case measure => simp [intOf]; omega
        · obtain rfl : i = 8 := by omega
          have h1' : ¬ (0 ≤ 7 - ((8 : Nat) : Int)) := by omega
          rw [show (padZ s ++ (bytes8 (s.length * 8)).take 8) = padS s from rfl] at HROW HLEN2
          have hm8 : (padS s).length = m2 := by rw [← byteCells_len, HLEN2.out]
          have hSH := show shaF s = (blocksH h0Sha (padS s) ((padS s).length / 64)).bytes from rfl
          have hp64 := padS_64 s
          rw [hm8] at hSH hp64
          have HSH := Lib.hid hSH
          have HP64 := Lib.hid hp64
          have HM8 := Lib.hid hm8
          have HGB := Lib.hid hgB
          generalize padS s = pad at *
          clear hSH hp64 hm8 HM2 h1 hi8 HLEN hm hml h56' h56n h56m hpl
          have CI := rfirst_walk wr
          rw [show (7 - ((8 : Nat) : Int)) = -1 from rfl]
          go_wp2_with fail
          refine CI.mono ?_
          rintro e w3 ⟨rfl, hb3⟩
          have HROW3 := Lib.hid (HROW.out.below hb3)
          have HB3 := Lib.hid (below_chain HB.out hb3 hbs)
          have hgl3 := Nat.lt_of_lt_of_le hgl hb3.size
          have hhs : (Tryz.prog.info? 205).map (·.size) = some ((h0Sha.words.map wV).toArray).size := by kernel_rfl
          have hh1 := one_map (f := wV) (fun _ => rfl) h0Sha.words
          clear CI HROW hb3
          go_upto_region 10 with (refine wpList_store_row rfl 205 _ _ rfl w3.heap.size (h0Sha.words.map wV).toArray rfl rfl 205 (Array.replicate 8 (Value.int .u32 0)) (heap_alloc_new _ _) hhs rfl hh1 ?_; simp only [Act.put])
          generalize hw4 : World.setRow _ _ _ = w4
          obtain ⟨xh, hb4⟩ : w4.heap[w3.heap.size]? = some (.cells (h0Sha.words.map wV).toArray 205 (0, 0)) ∧ Below w3.heap.size w3 w4 := by rw [← hw4]; exact laid_row _ _ _ _
          clear hw4 hhs hh1
          have HROW4 := Lib.hid (HROW3.out.below hb4)
          have HB4 := Lib.hid (below_chain HB3.out hb4 HB3.out.size)
          have HW3 := Lib.hid HB3.out.size
          have HGL := Lib.hid hgl3
          have XH := Lib.hid xh
          clear HROW3 HB3 hb4 xh hgl3 hgl HB hbs
          go_wp2
          obtain ⟨wp, rfl⟩ : ∃ wp : World, wp = wr := ⟨_, rfl⟩
          go_loopw [7] (fun i wr => ∃ k : Nat, 64 * k ≤ m2 ∧ i = .int .i64 (64 * (k : Int)) ∧ RowM wr w.heap.size 5 (.slice (some ⟨g, 0, none⟩) m2 cp) (Lib.byteCells pad) ∧ wr.heap[w3.heap.size]? = some (.cells ((blocksH h0Sha pad k).words.map wV).toArray 205 (0, 0)) ∧ Below w.heap.size w wr) (fun i _ => m2 + 64 - (intOf i).toNat)
          case atStart => exact ⟨0, Nat.zero_le _, rfl, HROW4.out, XH.out, HB4.out⟩
          case round =>
            clear HROW4 XH HB4
            obtain ⟨k, hk, rfl, hrow, hxh, hB⟩ := hrel
            have HROW := Lib.hid hrow
            have HXH := Lib.hid hxh
            have HB := Lib.hid hB
            have h64 := HP64.out
            have hb3h := heap_lt hxh
            have hszw := hB.size
            clear hrow hxh hB
            by_cases h1 : 64 * k < m2
            · have h1' : 64 * (k : Int) < (m2 : Int) := by omega
              have hkm : 64 * k + 64 ≤ m2 := by omega
              have hbl := blk_len (l := pad) (k := k) (by have := HM8.out; omega) (by have := HM8.out; omega)
              have HBE := Lib.hid (fun j (hj : j < 64) => blk_at (l := pad) (k := k) hj (by have := HM8.out; omega))
              have HBK := Lib.hid (show blocksH h0Sha pad (k + 1) = blockH (blocksH h0Sha pad k) ((pad.drop (64 * k)).take 64) from rfl)
              have hok := blocksH_ok h0_ok pad k
              generalize (pad.drop (64 * k)).take 64 = blk at *
              generalize blocksH h0Sha pad k = hv at *
              go_upto_region 14 with fail
              generalize hwq : World.alloc _ _ = wq
              have hxq : wq.heap[wr.heap.size]? = some (.cells (cellsBy 64 (blk.take 0)) 207 (0, 0)) := by
                rw [← hwq, heap_alloc_new]
                rfl
              have hbq : Below wr.heap.size wr wq := by
                rw [← hwq]
                exact (Below.refl _ _).alloc (Nat.le_refl _) _
              clear hwq
              have HROWQ := Lib.hid (HROW.out.below hbq)
              have HXHQ := Lib.hid ((hbq.block _ (heap_lt HXH.out)).trans HXH.out)
              have HBQ := Lib.hid (below_chain HB.out hbq HB.out.size)
              have HGW := Lib.hid (show g < wr.heap.size by have := HGL.out; omega)
              clear HROW HXH HB hbq
              obtain ⟨wl, rfl⟩ : ∃ wl : World, wl = wr := ⟨_, rfl⟩
              go_wp2
              go_loopw [9] (fun i w' => ∃ j : Nat, j ≤ 64 ∧ i = .int .i64 (j : Int) ∧ w'.heap[wl.heap.size]? = some (.cells (cellsBy 64 (blk.take j)) 207 (0, 0)) ∧ Gro wl.heap.size wq w') (fun i _ => 64 - (intOf i).toNat)
              case atStart => exact ⟨0, Nat.zero_le _, rfl, hxq, gro_of (Below.refl _ _)⟩
              case round =>
                clear hxq
                obtain ⟨j, hj, rfl, hx, hG⟩ := hrel
                have HROWR := Lib.hid (HROWQ.out.kept hG (by have := HGW.out; omega))
                by_cases h2 : j < 64
                · have h2' : (j : Int) < 64 := by omega
                  have hjm : 64 * k + j < pad.length := by have := HM8.out; omega
                  have hbj := HBE.out j h2
                  have ec : (Lib.byteCells pad)[64 * k + j]? = some (.int .u8 ((pad[64 * k + j]).toNat : Nat)) := by simp [Lib.byteCells, hjm]
                  have hcell := HROWR.out.cell ec
                  have HTS := Lib.hid (take_snoc' hbj)
                  generalize pad[64 * k + j] = c at *
                  have hjt : (blk.take j).length = j := by rw [List.length_take]; omega
                  have hq1 : (64 * (k : Int) + (j : Int)) < (m2 : Int) := by omega
                  have hq2 : 0 ≤ (64 * (k : Int) + (j : Int)) := by omega
                  have hq3 : (64 * (k : Int) + (j : Int)).toNat = 64 * k + j := by omega
                  have cz := arr_cell hx (cellsBy_zero (n := 64) (ws := blk.take j) (i := j) (by omega) (by omega))
                  have sz := is_some cz
                  have fz := arr_frozen (i := j) hx
                  have HX := Lib.hid hx
                  have HG := Lib.hid hG
                  have HJT := Lib.hid hjt
                  clear ec hbj hx hG hjt hjm
                  go_wp2
                  go_roundw
                  case rel =>
                    refine ⟨j + 1, by omega, by go_num, ?_, gro_set HG.out _ _⟩
                    rw [HTS.out]
                    have hpu := arr_pushB (x := c) HX.out (by have := HJT.out; omega)
                    rw [HJT.out] at hpu
                    exact hpu
                  case measure => simp [intOf]; omega
                · obtain rfl : j = 64 := by omega
                  rw [List.take_of_length_le (by omega), cellsBy_all hbl] at hx
                  have hxh := (hG.block _ (heap_lt HXHQ.out) (fun e => by have := Option.some.inj e; omega)).trans HXHQ.out
                  have hBr := HBQ.out.trans (gro_below hG hszw HBQ.out.size)
                  have hsb : (Tryz.prog.info? 207).map (·.size) = some (blk.map bV).toArray.size := by
                    simp only [List.size_toArray, List.length_map, hbl]
                    kernel_rfl
                  have hsh : (Tryz.prog.info? 205).map (·.size) = some ((hv.words.map wV).toArray).size := by kernel_rfl
                  have CB := rblock_walk hv hok blk hbl wr
                  obtain ⟨hn, hhn⟩ : ∃ hn, blockH hv blk = hn := ⟨_, rfl⟩
                  rw [hhn] at CB HBK
                  clear hhn
                  have HX := Lib.hid hx
                  have HXH := Lib.hid hxh
                  have HB := Lib.hid hBr
                  rw [show ((64 : Nat) : Int) = 64 from rfl]
                  clear hG hBr hj h2
                  go_upto_region 18 with fail
                  apply wp_region_lit
                  refine wpList_load_row rfl 205 _ rfl w3.heap.size rfl 205 _ _ _ HXH.out Tryz.underlying205 rfl hsh ?_
                  refine wpList_load_row rfl 207 _ rfl wl.heap.size rfl 207 _ _ _ HX.out Tryz.underlying207 rfl hsb ?_
                  clear hx hxh hsb hsh
                  go_wp2_with fail
                  refine CB.mono ?_
                  rintro e w5 ⟨rfl, hb5⟩
                  have hxh5 := (hb5.block _ (heap_lt HXH.out)).trans HXH.out
                  have HROW5 := Lib.hid (HROWR.out.below hb5)
                  have HB5 := Lib.hid (below_chain HB.out hb5 HB.out.size)
                  have hso : (hv.words.map wV).toArray.size = (hn.words.map wV).toArray.size := rfl
                  have hs8 : (Tryz.prog.info? 205).map (·.size) = some ((hn.words.map wV).toArray).size := by kernel_rfl
                  have ho8 := one_map (f := wV) (fun _ => rfl) hn.words
                  clear hb5 CB
                  go_upto_region 12 with (refine wpList_store_row rfl 205 _ _ rfl w3.heap.size (hn.words.map wV).toArray rfl rfl 205 _ hxh5 hs8 hso ho8 ?_; simp only [Act.put])
                  generalize hw6 : World.setRow _ _ _ = w6
                  have HXH6 : Hid (w6.heap[w3.heap.size]? = some (.cells ((blocksH h0Sha pad (k + 1)).words.map wV).toArray 205 (0, 0))) := Lib.hid (by
                    rw [← hw6, HBK.out]
                    exact setRow_heap w5 _ _ _ _ _ hxh5)
                  have HROW6 : Hid (RowM w6 w.heap.size 5 (.slice (some ⟨g, 0, none⟩) m2 cp) (Lib.byteCells pad)) := Lib.hid (by
                    rw [← hw6]
                    exact HROW5.out.kept (k := w3.heap.size) ⟨rfl, rfl, rfl, by simp, fun q hq hne => setRow_other _ _ _ _ (fun e => hne (by rw [e]))⟩ (by have := HGL.out; omega))
                  have HB6 : Hid (Below w.heap.size w w6) := Lib.hid (by
                    rw [← hw6]
                    exact below_setRow HB5.out HW3.out _)
                  clear hw6 hxh5 hso hs8 ho8 HROW5 HB5 HBK
                  go_wp2
                  go_roundw
                  case rel => exact ⟨k + 1, by omega, congrArg (Value.int IntKind.i64) (by omega), HROW6.out, HXH6.out, HB6.out⟩
                  case measure => simp [intOf]; omega
            · have hkm : k = m2 / 64 := by omega
              have h1' : ¬ (64 * (k : Int) < (m2 : Int)) := by omega
              rw [← hkm] at HSH
              have hok := blocksH_ok h0_ok pad k
              generalize blocksH h0Sha pad k = R at *
              have HSW := Lib.hid (show shaF s = R.words.flatMap wordBytes from HSH.out)
              clear HSH HROW hkm h1 hk h64
              go_wp2
              obtain ⟨wk, rfl⟩ : ∃ wk : World, wk = wr := ⟨_, rfl⟩
              go_loopw [11, 10] (fun i v w' => ∃ j : Nat, j ≤ 8 ∧ i = .int .i64 (j : Int) ∧ w'.ownsRow w.heap.size 5 1 v ((R.words.take j).flatMap wordBytes).length (Lib.byteCells ((R.words.take j).flatMap wordBytes)) ∧ w'.heap[w3.heap.size]? = some (.cells (R.words.map wV).toArray 205 (0, 0)) ∧ Below w.heap.size w w' ∧ (∀ b, v.ownBlock = some b → b ≠ w3.heap.size)) (fun i _ _ => 8 - (intOf i).toNat)
              case atStart => exact ⟨0, Nat.zero_le _, rfl, World.ownsRow_nil _ _ _ _, HXH.out, HB.out, by intro b hb; cases hb⟩
              case round =>
                clear HXH HB hb3h hszw
                obtain ⟨j, hj, rfl, hown, hxh, hB, hob⟩ := hrel
                by_cases h2 : j < 8
                · have h2' : (j : Int) < 8 := by omega
                  have hjl : j < R.words.length := h2
                  have hc := arr_cell hxh (map_at (f := wV) hjl)
                  have HT := Lib.hid (flat_snoc hjl)
                  have hfl : ((R.words.take j).flatMap wordBytes).length ≤ 100 := by rw [wordBytes_flat, List.length_take]; omega
                  generalize R.words[j] = x at *
                  unfold wV at hc
                  generalize hfw : (R.words.take j).flatMap wordBytes = out at *
                  obtain ⟨wd, hwd, r9, hown9, hxh9, hB9⟩ : ∃ wd : World, wd = { wr with drawn := wr.drawn + 1 } ∧ wd.cell? ⟨w3.heap.size, j, none⟩ = some (.int .u32 ((x : Nat) : Int)) ∧ wd.ownsRow w.heap.size 5 1 u10 out.length (Lib.byteCells out) ∧ wd.heap[w3.heap.size]? = some (.cells (R.words.map wV).toArray 205 (0, 0)) ∧ Below w.heap.size w wd :=
                    ⟨_, rfl, hc, own_on hown ⟨rfl, rfl, rfl, Nat.le_refl _, fun _ _ => rfl⟩, hxh, ⟨hB.os, hB.tape, hB.output, hB.size, hB.block⟩⟩
                  have HLT := Lib.hid (fun vb (h : u10.ownBlock = some vb) => (hown9.lt vb h).2)
                  obtain ⟨cs, hcs⟩ : ∃ cs : List Value, cs = [.int .u8 (IntKind.u8.wrap ((x : Int) / 16777216)), .int .u8 (IntKind.u8.wrap ((x : Int) / 65536)), .int .u8 (IntKind.u8.wrap ((x : Int) / 256)), .int .u8 (IntKind.u8.wrap (x : Int))] := ⟨_, rfl⟩
                  have hcs2 : Lib.byteCells (wordBytes x) = cs := by
                    rw [hcs]
                    simp only [Lib.byteCells, wordBytes, List.map_cons, List.map_nil, ofNat_nat, IntKind.wrap_u8]
                    rfl
                  have HCS := Lib.hid hcs
                  have HCS2 := Lib.hid hcs2
                  have r10 := cell_old r9 (.cells #[.int .u8 (IntKind.u8.wrap ((x : Int) / 16777216)), .int .u8 (IntKind.u8.wrap ((x : Int) / 65536)), .int .u8 (IntKind.u8.wrap ((x : Int) / 256)), .int .u8 (IntKind.u8.wrap (x : Int))] 5)
                  have HR10 := Lib.hid r10
                  have HO10 := Lib.hid (hown9.alloc (.cells #[.int .u8 (IntKind.u8.wrap ((x : Int) / 16777216)), .int .u8 (IntKind.u8.wrap ((x : Int) / 65536)), .int .u8 (IntKind.u8.wrap ((x : Int) / 256)), .int .u8 (IntKind.u8.wrap (x : Int))] 5))
                  have HX10 := Lib.hid ((Below.heap_alloc wd (.cells #[.int .u8 (IntKind.u8.wrap ((x : Int) / 16777216)), .int .u8 (IntKind.u8.wrap ((x : Int) / 65536)), .int .u8 (IntKind.u8.wrap ((x : Int) / 256)), .int .u8 (IntKind.u8.wrap (x : Int))] 5) _ (heap_lt hxh9)).trans hxh9)
                  have HB10 := Lib.hid (hB9.alloc hB9.size (.cells #[.int .u8 (IntKind.u8.wrap ((x : Int) / 16777216)), .int .u8 (IntKind.u8.wrap ((x : Int) / 65536)), .int .u8 (IntKind.u8.wrap ((x : Int) / 256)), .int .u8 (IntKind.u8.wrap (x : Int))] 5))
                  have HNC : Hid (∀ (q : Nat) u, cs[q]? = some u → (wd.alloc (.cells #[.int .u8 (IntKind.u8.wrap ((x : Int) / 16777216)), .int .u8 (IntKind.u8.wrap ((x : Int) / 65536)), .int .u8 (IntKind.u8.wrap ((x : Int) / 256)), .int .u8 (IntKind.u8.wrap (x : Int))] 5)).cell? ((⟨wd.heap.size, 0, none⟩ : Addr).add q) = some u) := Lib.hid (by
                    intro q u hq
                    rw [Addr.add_lit, Nat.zero_add]
                    refine cell_new _ _ _ _ ?_
                    rw [hcs] at hq
                    simpa using hq)
                  have HONE : Hid (∀ u ∈ cs, u.oneCell' = true) := Lib.hid (by rw [hcs]; intro u hu; simp at hu; rcases hu with rfl | rfl | rfl | rfl <;> rfl)
                  have HSZ9 := Lib.hid hB9.size
                  have HOB := Lib.hid hob
                  have HCL := Lib.hid (show cs.length = 4 by rw [hcs]; rfl)
                  clear hown hxh hB hob hjl hfw hc hown9 hxh9 hB9 hcs hcs2 r10
                  go_upto_region 23 with fail
                  (refine wp_region_held (S := fun w' => w'.cell? ⟨w3.heap.size, j, none⟩ = some (.int .u32 ((x : Nat) : Int))) (by kernel_rfl) ?_)
                  rw [← hwd]
                  clear hwd
                  (refine wpAnyH_take (i := 0) (v := ?_) rfl (by kernel_rfl) (by kernel_rfl) (by kernel_rfl) (fun _ _ _ h => h) (Or.inl ⟨by rfl, ?_⟩) (by exact r9) ?_; rotate_left; (intro w9 hS9; skip; go_simp; try with_reducible rfl))
                  (refine wpAnyH_take (i := 1) (v := ?_) rfl (by kernel_rfl) (by kernel_rfl) (by kernel_rfl) (fun _ _ _ h => h) (Or.inl ⟨by rfl, ?_⟩) (by exact r9) ?_; rotate_left; (intro w9 hS9; skip; go_simp; try with_reducible rfl))
                  (refine wpAnyH_take (i := 2) (v := ?_) rfl (by kernel_rfl) (by kernel_rfl) (by kernel_rfl) (fun _ _ _ h => h) (Or.inl ⟨by rfl, ?_⟩) (by exact r9) ?_; rotate_left; (intro w9 hS9; skip; go_simp; try with_reducible rfl))
                  (refine wpAnyH_take (i := 3) (v := ?_) rfl (by kernel_rfl) (by kernel_rfl) (by kernel_rfl) (fun _ _ _ h => h) (Or.inl ⟨by rfl, ?_⟩) (by exact r9) ?_; rotate_left; (intro w9 hS9; (replace hS9 : w9.cell? ⟨w3.heap.size, j, none⟩ = some (.int .u32 ((x : Nat) : Int)) := hS9); go_simp; try with_reducible rfl))
                  (refine wpAnyH_take (i := 4) (v := ?_) rfl (by kernel_rfl) (by kernel_rfl) (by kernel_rfl) (fun _ _ _ h => h) (Or.inl ⟨by rfl, ?_⟩) (by exact r9) ?_; rotate_left; (intro w9 hS9; skip; go_simp; try with_reducible rfl))
                  go_simp
                  (refine wpAnyH_take (i := 5) (v := ?_) rfl (by kernel_rfl) (by kernel_rfl) (by kernel_rfl) (fun _ _ _ h => h) (Or.inl ⟨by rfl, ?_⟩) (by exact r9) ?_; rotate_left; (intro w9 hS9; skip; go_simp; try with_reducible rfl))
                  (refine wpAnyH_take (i := 6) (v := ?_) rfl (by kernel_rfl) (by kernel_rfl) (by kernel_rfl) (fun _ _ _ h => h) (Or.inl ⟨by rfl, ?_⟩) (by exact r9) ?_; rotate_left; (intro w9 hS9; skip; go_simp; try with_reducible rfl))
                  (refine wpAnyH_take (i := 7) (v := ?_) rfl (by kernel_rfl) (by kernel_rfl) (by kernel_rfl) (fun _ _ _ h => h) (Or.inl ⟨by rfl, ?_⟩) (by exact r9) ?_; rotate_left; (intro w9 hS9; skip; go_simp; try with_reducible rfl))
                  (refine wpAnyH_take (i := 8) (v := ?_) rfl (by kernel_rfl) (by kernel_rfl) (by kernel_rfl) (fun _ _ _ h => h) (Or.inl ⟨by rfl, ?_⟩) (by exact r9) ?_; rotate_left; (intro w9 hS9; (replace hS9 : w9.cell? ⟨w3.heap.size, j, none⟩ = some (.int .u32 ((x : Nat) : Int)) := hS9); go_simp; try with_reducible rfl))
                  (refine wpAnyH_take (i := 9) (v := ?_) rfl (by kernel_rfl) (by kernel_rfl) (by kernel_rfl) (fun _ _ _ h => h) (Or.inl ⟨by rfl, ?_⟩) (by exact r9) ?_; rotate_left; (intro w9 hS9; skip; go_simp; try with_reducible rfl))
                  go_simp
                  (refine wpAnyH_take (i := 10) (v := ?_) rfl (by kernel_rfl) (by kernel_rfl) (by kernel_rfl) (fun _ _ _ h => h) (Or.inl ⟨by rfl, ?_⟩) (by exact r9) ?_; rotate_left; (intro w9 hS9; skip; go_simp; try with_reducible rfl))
                  (refine wpAnyH_take (i := 11) (v := ?_) rfl (by kernel_rfl) (by kernel_rfl) (by kernel_rfl) (fun _ _ _ h => h) (Or.inl ⟨by rfl, ?_⟩) (by exact r9) ?_; rotate_left; (intro w9 hS9; skip; go_simp; try with_reducible rfl))
                  (refine wpAnyH_take (i := 12) (v := ?_) rfl (by kernel_rfl) (by kernel_rfl) (by kernel_rfl) (fun _ _ _ h => h) (Or.inl ⟨by rfl, ?_⟩) (by exact r9) ?_; rotate_left; (intro w9 hS9; skip; go_simp; try with_reducible rfl))
                  (refine wpAnyH_take (i := 13) (v := ?_) rfl (by kernel_rfl) (by kernel_rfl) (by kernel_rfl) (fun _ _ _ h => h) (Or.inl ⟨by rfl, ?_⟩) (by exact r9) ?_; rotate_left; (intro w9 hS9; (replace hS9 : w9.cell? ⟨w3.heap.size, j, none⟩ = some (.int .u32 ((x : Nat) : Int)) := hS9); go_simp; try with_reducible rfl))
                  (refine wpAnyH_take (i := 14) (v := ?_) rfl (by kernel_rfl) (by kernel_rfl) (by kernel_rfl) (fun _ _ _ h => h) (Or.inl ⟨by rfl, ?_⟩) (by exact r9) ?_; rotate_left; (intro w9 hS9; skip; go_simp; try with_reducible rfl))
                  go_simp
                  (refine wpAnyH_take (i := 15) (v := ?_) rfl (by kernel_rfl) (by kernel_rfl) (by kernel_rfl) (fun _ _ _ h => h) (Or.inl ⟨by rfl, ?_⟩) (by exact r9) ?_; rotate_left; (intro w9 hS9; skip; go_simp; try with_reducible rfl))
                  (refine wpAnyH_take (i := 16) (v := ?_) rfl (by kernel_rfl) (by kernel_rfl) (by kernel_rfl) (fun _ _ _ h => h) (Or.inl ⟨by rfl, ?_⟩) (by exact r9) ?_; rotate_left; (intro w9 hS9; skip; go_simp; try with_reducible rfl))
                  (refine wpAnyH_take (i := 17) (v := ?_) rfl (by kernel_rfl) (by kernel_rfl) (by kernel_rfl) (fun _ _ _ h => h) (Or.inl ⟨by rfl, ?_⟩) (by exact r9) ?_; rotate_left; (intro w9 hS9; skip; go_simp; try with_reducible rfl))
                  (refine wpAnyH_take (i := 18) (v := ?_) rfl (by kernel_rfl) (by kernel_rfl) (by kernel_rfl) (fun _ _ _ h => h) (Or.inl ⟨by rfl, ?_⟩) (by exact r9) ?_; rotate_left; (intro w9 hS9; (replace hS9 : w9.cell? ⟨w3.heap.size, j, none⟩ = some (.int .u32 ((x : Nat) : Int)) := hS9); go_simp; try with_reducible rfl))
                  (refine wpAnyH_take (i := 19) (v := ?_) rfl (by kernel_rfl) (by kernel_rfl) (by kernel_rfl) (fun _ _ _ h => h) (Or.inl ⟨by rfl, ?_⟩) (by exact r9) ?_; rotate_left; (intro w9 hS9; skip; go_simp; try with_reducible rfl))
                  go_simp
                  (refine wpAnyH_one (i := 20) (by kernel_rfl) rfl (fun K hK => ?_); go_simp; refine hK _ _ (HR10.out) ?_; clear hK K)
                  refine wpAnyH_one (i := 21) (by kernel_rfl) rfl (fun K hK => ?_)
                  rw [if_pos (by rfl)]
                  refine wp_append_own _ (.tmp 66) (.tmp 86) 113 rfl w.heap.size 5 i0 (.int .u8 0) 1 1 Tryz.underlying113 hi hz0 hz1 hz2 rfl (by decide) u10 out.length (Lib.byteCells out) rfl HO10.out ⟨wd.heap.size, 0, none⟩ 4 4 cs rfl (by rw [HCL.out]) HNC.out HONE.out (by unfold maxLen; omega) (by omega) (by have := HSZ9.out; simp; omega) ?_
                  intro v' w5 hown5 hgrow _
                  have HB5 : Hid (Below w.heap.size w w5) := Lib.hid (HB10.out.grown hgrow (by have := HSZ9.out; simp; omega) (fun q hq => (HO10.out.lt q hq).1))
                  have HO5 : Hid (w5.ownsRow w.heap.size 5 1 v' ((R.words.take (j + 1)).flatMap wordBytes).length (Lib.byteCells ((R.words.take (j + 1)).flatMap wordBytes))) := Lib.hid (by
                    rw [HT.out, byteCells_app, HCS2.out, List.length_append]
                    exact hown5)
                  have hne : some w3.heap.size ≠ u10.ownBlock := fun e => HOB.out _ e.symm rfl
                  have HX5 := Lib.hid ((hgrow.block w3.heap.size (heap_lt HX10.out) hne).trans HX10.out)
                  have hr5 : w5.cell? ⟨w3.heap.size, j, none⟩ = some (.int .u32 ((x : Nat) : Int)) := (World.cell?_of_block (hgrow.block w3.heap.size (lt_of_cell HR10.out) hne)).trans HR10.out
                  have HOB5 : Hid (∀ b, v'.ownBlock = some b → b ≠ w3.heap.size) := Lib.hid (by
                    intro q hq e
                    rcases HO5.out.2 with ⟨h0, _⟩ | ⟨g5, cap5, cur5, hv5, _, hg5, _⟩
                    · rw [h0] at hq
                      cases hq
                    · rw [hv5] at hq
                      have hq2 : g5 = q := Option.some.inj hq
                      rw [hq2, e, HX5.out] at hg5
                      have h3 := Option.some.inj hg5
                      injection h3 with _ h4 _
                      exact absurd h4 (by decide))
                  refine hK _ _ hr5 ?_
                  clear hK K hgrow hown5 hne
                  (refine wpAnyH_one (i := 22) (by kernel_rfl) rfl (fun K hK => ?_); go_simp; refine hK _ _ (hr5) ?_; clear hK K)
                  (refine wpAnyH_done (by kernel_rfl) ?_ _)
                  go_wp2
                  go_roundw
                  case rel => exact ⟨j + 1, by omega, by go_num, HO5.out, HX5.out, HB5.out, HOB5.out⟩
                  case measure => simp [intOf]; omega
                · obtain rfl : j = 8 := by omega
                  rw [show (R.words.take 8).flatMap wordBytes = shaF s by rw [HSW.out]; rfl] at hown
                  have hcv2 := bytes_back hown
                  have HB := Lib.hid hB
                  clear hown hxh hB hob h2
                  rw [show ((8 : Nat) : Int) = 8 from rfl]
                  go_wp2
                  go_ret
                  exact ⟨rfl, HB.out⟩
    · have h56' : ((m : Int) % 64 == 56) = false := by rw [beq_eq_false_iff_ne]; omega
      have h56n : (!((m : Int) % 64 == 56)) = true := by rw [h56']; rfl
      have h56m : ((m : Int) % 64 != 56) = true := by rw [bne, h56']; rfl
      have hzs := zerosN_succ h56
      have HZS := Lib.hid hzs
      have HM := Lib.hid hm
      obtain ⟨ys, hys⟩ : ∃ ys, s ++ [128] ++ List.replicate j 0 = ys := ⟨_, rfl⟩
      have HYS := Lib.hid (show s ++ [128] ++ List.replicate (j + 1) 0 = ys ++ [0] by rw [List.replicate_succ', ← List.append_assoc, hys])
      rw [hys] at HROW HLEN
      clear h56 hzs hm hys
      go_wp2_with (at_builtin; refine wpList_append_rowm _ rfl _ _ 113 rfl 5 i0 (.int .u8 0) 1 Tryz.underlying113 hi hz0 hz1 hz2 rfl w.heap.size _ _ rfl (HROW.out.below ((Below.refl _ _).alloc (Nat.le_refl _) _)) ⟨wr.heap.size, 0, none⟩ 1 1 [.int .u8 0] rfl rfl (new_cell _ _ _) (by intro u hu; simp at hu; subst hu; rfl) (by rw [HLEN.out]; unfold maxLen; omega) (by rw [HLEN.out]; omega) (by simp; omega) ?_)
      intro v3 w3 hrow3 hb3
      have HB3 := Lib.hid ((HB.out.trans ((Below.refl w.heap.size wr).alloc hbs _)).trans hb3)
      have hrow4 : RowM w3 w.heap.size 5 v3 (Lib.byteCells (s ++ [128] ++ List.replicate (j + 1) 0)) := by
        rw [HYS.out, byteCells_app]
        exact hrow3
      obtain ⟨g3, cp3, hv3, -⟩ := hrow4.slice
      have HR4 := Lib.hid hrow4
      have hsl : sliceLen v3 = m + 1 := by
        rw [hv3]
        show (Lib.byteCells _).length = _
        rw [byteCells_len]
        simp only [List.length_append, List.length_replicate, List.length_singleton]
        have := HM.out
        omega
      have HSL := Lib.hid hsl
      clear hrow3 hb3 hrow4 hv3 hsl
      go_wp2
      go_roundw
      case rel => exact ⟨j + 1, HR4.out, by have h1 := HJ.out; have h2 := HZS.out; have h3 := HM.out; rw [h1, h2, show s.length + 1 + (j + 1) = m + 1 by omega]; omega, HB3.out⟩
      case measure =>
        show zerosN (sliceLen v3) < zerosN m
        rw [HSL.out, HZS.out]
        omega
end Go.Proofs.YtaompdnnkfmjhaaGreatDoor

namespace Go.Proofs.YtaompdnnkfmjhaaGreatDoor
open Go.RowKit

theorem tab_last {m : Int} (h0 : 0 ≤ m) (h1 : m < 18446744073709551616) : bits .xor .u64 m (m / 2147483648) = mixG m 2147483648 1 := by
  unfold mixG
  have h2 : 0 ≤ m / 2147483648 := by omega
  have h3 : m / 2147483648 < 18446744073709551616 := by omega
  obtain ⟨a, rfl⟩ := Int.eq_ofNat_of_zero_le h0
  obtain ⟨b, hb⟩ := Int.eq_ofNat_of_zero_le h2
  rw [hb] at h3 ⊢
  rw [u64_xor_nat a b (by omega) (by omega), Int.mul_one, IntKind.wrap_u64]
  have := Nat.xor_lt_two_pow (n := 64) (x := a) (y := b) (by omega) (by omega)
  omega

set_option maxHeartbeats 1000000 in
theorem r06table_walk (b : UInt8) (w : World) : Calls Tryz.prog 152 #[.int .u8 (b.toNat : Nat)] w fun e w' => e = .returned (.int .u64 (tabG b)) ∧ w' = w := by
  have HT := Lib.hid (tab_last (wrap64_range (bits .xor .u64 (IntKind.u64.wrap (bits .xor .u64 (IntKind.u64.wrap (IntKind.u64.wrap (IntKind.u64.wrap ((b.toNat : Nat) : Int) + 1) * 11400714819323198485)) (IntKind.u64.wrap (IntKind.u64.wrap (IntKind.u64.wrap ((b.toNat : Nat) : Int) + 1) * 11400714819323198485) / 1073741824) * 13787848793156543929)) (IntKind.u64.wrap (bits .xor .u64 (IntKind.u64.wrap (IntKind.u64.wrap (IntKind.u64.wrap ((b.toNat : Nat) : Int) + 1) * 11400714819323198485)) (IntKind.u64.wrap (IntKind.u64.wrap (IntKind.u64.wrap ((b.toNat : Nat) : Int) + 1) * 11400714819323198485) / 1073741824) * 13787848793156543929) / 134217728) * 10723151780598845931)).1 (wrap64_range _).2)
  go_enter Tryz.func152, Tryz.ntmps152
  go_wp2
  go_ret
  exact ⟨congrArg (fun t => Ending.returned (Value.int IntKind.u64 t)) HT.out, rfl⟩
theorem r06roll_walk (h : Int) (b : UInt8) (w : World) : Calls Tryz.prog 138 #[.int .u64 h, .int .u8 (b.toNat : Nat)] w fun e w' => e = .returned (.int .u64 (rollG h b)) ∧ w' = w := by
  have C := r06table_walk b w
  have HR := Lib.hid (show IntKind.u64.wrap (IntKind.u64.wrap (2 * h) + tabG b) = rollG h b by rw [Int.mul_comm]; rfl)
  generalize rollG h b = r at *
  generalize tabG b = t at *
  go_enter Tryz.func138, Tryz.ntmps138
  go_wp2_with fail
  refine C.mono ?_
  rintro e w1 ⟨rfl, rfl⟩
  go_wp2
  go_ret
  exact ⟨congrArg (fun t => Ending.returned (Value.int IntKind.u64 t)) HR.out, rfl⟩

/-- The value of parameters. -/
abbrev PrmV (x y z : Nat) : Value := .agg #[.int .i64 (x : Nat), .int .i64 (y : Nat), .int .i64 (z : Nat)]

theorem pow_wrap {k : Nat} (h : k < 30) : wrap64 ((2 : Int) ^ k) = ((2 ^ k : Nat) : Int) := by
  have h2 : 2 ^ k < 2 ^ 30 := Nat.pow_lt_pow_right (by decide) h
  have h3 : ((2 ^ k : Nat) : Int) = (2 : Int) ^ k := by rw [Int.natCast_pow]; rfl
  rw [← h3]
  unfold wrap64
  generalize 2 ^ k = m at *
  omega
/-- How often 2 divides a power of two; -1: it is none. -/
def powI (n : Int) : Int := match (List.range 30).find? (fun k => n == ((2 ^ k : Nat) : Int)) with | some k => k | none => -1
theorem powI_at {n : Int} {k : Nat} (hk : k < 30) (h : ∀ j < k, n ≠ ((2 ^ j : Nat) : Int)) (he : n = ((2 ^ k : Nat) : Int)) : powI n = k := by
  unfold powI
  have : (List.range 30).find? (fun k => n == ((2 ^ k : Nat) : Int)) = some k := by
    rw [List.find?_range_eq_some]
    refine ⟨by rw [beq_iff_eq]; exact he, by rw [List.mem_range]; exact hk, fun j hj => ?_⟩
    simp only [Bool.not_eq_true', beq_eq_false_iff_ne]
    exact h j hj
  rw [this]
theorem powI_no {n : Int} (h : ∀ j < 30, n ≠ ((2 ^ j : Nat) : Int)) : powI n = -1 := by
  unfold powI
  have : (List.range 30).find? (fun k => n == ((2 ^ k : Nat) : Int)) = none := by
    rw [List.find?_eq_none]
    intro j hj
    rw [beq_iff_eq]
    exact h j (List.mem_range.1 hj)
  rw [this]
theorem powI_pow {k : Nat} (hk : k < 30) : powI ((2 ^ k : Nat) : Int) = k :=
  powI_at hk (fun j hj e => by
    have : 2 ^ j < 2 ^ k := Nat.pow_lt_pow_right (by decide) hj
    omega) rfl
theorem powI_pos {n : Int} (h : 0 < powI n) : ∃ k : Nat, 1 ≤ k ∧ k < 30 ∧ n = ((2 ^ k : Nat) : Int) := by
  unfold powI at h
  cases hf : (List.range 30).find? (fun k => n == ((2 ^ k : Nat) : Int)) with
  | none => rw [hf] at h; simp at h
  | some k =>
    rw [hf] at h
    have h1 := List.find?_some hf
    have h2 := List.mem_range.1 (List.mem_of_find?_eq_some hf)
    rw [beq_iff_eq] at h1
    exact ⟨k, by simp at h; omega, h2, h1⟩
set_option maxHeartbeats 1000000 in
theorem r07power_walk (n : Int) (w : World) : Calls Tryz.prog 85 #[.int .i64 n] w fun e w' => e = .returned (.int .i64 (powI n)) ∧ w' = w := by
  have HP := Lib.hid (fun (k : Nat) (hk : k < 30) (h : ∀ j < k, n ≠ ((2 ^ j : Nat) : Int)) (he : n = ((2 ^ k : Nat) : Int)) => powI_at hk h he)
  have HN := Lib.hid (fun (h : ∀ j < 30, n ≠ ((2 ^ j : Nat) : Int)) => powI_no h)
  generalize powI n = p at *
  go_enter Tryz.func85, Tryz.ntmps85
  go_wp2
  go_loopw [3] (fun i wr => wr = w ∧ ∃ k : Nat, k ≤ 30 ∧ i = .int .i64 k ∧ ∀ j < k, n ≠ ((2 ^ j : Nat) : Int)) (fun i _ => 30 - (intOf i).toNat)
  case atStart => exact ⟨rfl, 0, by omega, rfl, fun j hj => by omega⟩
  case round =>
    obtain ⟨rfl, k, hk, rfl, hall⟩ := hrel
    have HALL := Lib.hid hall
    clear hall
    by_cases h1 : k < 30
    · have h1' : (k : Int) < 30 := by omega
      have hpw := pow_wrap h1
      by_cases h2 : n = ((2 ^ k : Nat) : Int)
      · have h2' : (n == wrap64 (2 ^ k)) = true := by rw [hpw, beq_iff_eq]; exact h2
        have HK := Lib.hid (HP.out k h1 HALL.out h2)
        clear h2 hpw
        go_wp2
        go_ret
        exact ⟨by rw [HK.out]; rfl, rfl⟩
      · have h2' : (n == wrap64 (2 ^ k)) = false := by rw [hpw, beq_eq_false_iff_ne]; exact h2
        have HK := Lib.hid h2
        clear h2 hpw
        go_wp2
        go_roundw
        case rel =>
          refine ⟨trivial, k + 1, by omega, by go_num, fun j hj => ?_⟩
          by_cases e : j = k
          · subst e; exact HK.out
          · exact HALL.out j (by omega)
        case measure => simp [intOf]; omega
    · have h1' : ¬ (k : Int) < 30 := by omega
      obtain rfl : k = 30 := by omega
      go_wp2
      go_ret
      exact ⟨by rw [HN.out HALL.out]; rfl, rfl⟩

theorem pow64_wrap {k : Nat} (h1 : 1 ≤ k) (h : k ≤ 64) : (IntKind.u64.wrap (IntKind.i64.wrap (64 - (k : Int)))).toNat = 64 - k := by
  rw [IntKind.wrap_i64, IntKind.wrap_u64]; omega
theorem shr_zero {h : Int} {n : Nat} (h0 : 0 ≤ h) : (h / 2 ^ n == 0) = decide (h < 2 ^ n) := by
  have hp : (0 : Int) < 2 ^ n := Int.pow_pos (by decide)
  rw [Bool.eq_iff_iff, beq_iff_eq, decide_eq_true_eq]
  constructor
  · intro e
    have := Int.lt_ediv_add_one_mul_self h hp
    rw [e] at this; omega
  · intro hl
    exact Int.ediv_eq_zero_of_lt h0 hl
set_option maxHeartbeats 1000000 in
theorem r07blank_walk (h : Int) (k : Nat) (w : World) (h0 : 0 ≤ h) (h1 : h < 18446744073709551616) (hk : k ≤ 60) : Calls Tryz.prog 139 #[.int .u64 h, .int .i64 k] w fun e w' => e = .returned (.bool (decide (h < 2 ^ (64 - k)))) ∧ w' = w := by
  by_cases hk0 : k = 0
  · subst hk0
    rw [show decide (h < 2 ^ (64 - 0)) = true by rw [decide_eq_true_eq]; exact h1]
    go_enter Tryz.func139, Tryz.ntmps139
    go_wp2
    go_ret
    exact ⟨rfl, rfl⟩
  · have hz : ((k : Int) == 0) = false := by rw [beq_eq_false_iff_ne]; omega
    have HQ := Lib.hid (shr_zero (n := 64 - k) h0)
    have HW := Lib.hid (pow64_wrap (k := k) (by omega) (by omega))
    clear hk0
    go_enter Tryz.func139, Tryz.ntmps139
    go_wp2
    go_ret
    exact ⟨congrArg (fun t => Ending.returned (Value.bool t)) HQ.out, rfl⟩

def fitCB (x y z : Int) : Bool := decide (1 ≤ x) && (decide (2 ≤ y) && (decide (0 < powI y) && (decide (x ≤ y) && (decide (y ≤ z) && decide (z ≤ 4096)))))
theorem fitCB_some {x y z : Int} (h : fitCB x y z = true) : ∃ a k c : Nat, FitC a k c ∧ x = a ∧ y = ((2 ^ k : Nat) : Int) ∧ z = c := by
  unfold fitCB at h
  simp only [Bool.and_eq_true, decide_eq_true_eq] at h
  obtain ⟨h1, h2, h3, h4, h5, h6⟩ := h
  obtain ⟨k, hk1, hk2, hk3⟩ := powI_pos h3
  refine ⟨x.toNat, k, z.toNat, ⟨by omega, hk1, ?_, by omega, by omega, by omega⟩, by omega, hk3, by omega⟩
  refine Classical.byContradiction fun hc => ?_
  have : 2 ^ 13 ≤ 2 ^ k := Nat.pow_le_pow_right (by decide) (by omega)
  omega
set_option maxHeartbeats 1000000 in
theorem r07fit_walk (x y z : Int) (w : World) : Calls Tryz.prog 66 #[.agg #[.int .i64 x, .int .i64 y, .int .i64 z]] w fun e w' => e = .returned (.bool (fitCB x y z)) ∧ Below w.heap.size w w' := by
  obtain ⟨w1, hw1, HB1, c0, c1, c2⟩ : ∃ w1, w1 = w.alloc (.cells #[.int .i64 x, .int .i64 y, .int .i64 z] 51) ∧ Hid (Below w.heap.size w w1) ∧ w1.cell? ⟨w.heap.size, 0, none⟩ = some (.int .i64 x) ∧ w1.cell? ⟨w.heap.size, 1, none⟩ = some (.int .i64 y) ∧ w1.cell? ⟨w.heap.size, 2, none⟩ = some (.int .i64 z) :=
    ⟨_, rfl, Lib.hid ((Below.refl _ _).alloc (Nat.le_refl _) _), cell_new _ _ _ 0 rfl, cell_new _ _ _ 1 rfl, cell_new _ _ _ 2 rfl⟩
  have C := r07power_walk y w1
  have HF := Lib.hid (show fitCB x y z = (decide (1 ≤ x) && (decide (2 ≤ y) && (decide (0 < powI y) && (decide (x ≤ y) && (decide (y ≤ z) && decide (z ≤ 4096)))))) from rfl)
  generalize fitCB x y z = f at *
  generalize powI y = p at *
  go_enter Tryz.func66, Tryz.ntmps66
  go_upto_region 1 with fail
  rw [← hw1]
  clear hw1
  by_cases h1 : 1 ≤ x
  case neg =>
    have HR := Lib.hid (show f = false by rw [HF.out]; simp [h1])
    go_wp2
    go_ret
    exact ⟨by rw [HR.out]; rfl, HB1.out⟩
  by_cases h2 : 2 ≤ y
  case neg =>
    have HR := Lib.hid (show f = false by rw [HF.out]; simp [h2])
    go_wp2
    go_ret
    exact ⟨by rw [HR.out]; rfl, HB1.out⟩
  by_cases h3 : 0 < p
  case neg =>
    have HR := Lib.hid (show f = false by rw [HF.out]; simp [h3])
    go_wp2_with fail
    refine C.mono ?_
    rintro e w2 ⟨rfl, rfl⟩
    go_wp2
    go_ret
    exact ⟨by rw [HR.out]; rfl, HB1.out⟩
  go_wp2_with fail
  refine C.mono ?_
  rintro e w2 ⟨rfl, rfl⟩
  by_cases h4 : x ≤ y
  case neg =>
    have HR := Lib.hid (show f = false by rw [HF.out]; simp [h4])
    go_wp2
    go_ret
    exact ⟨by rw [HR.out]; rfl, HB1.out⟩
  by_cases h5 : y ≤ z
  case neg =>
    have HR := Lib.hid (show f = false by rw [HF.out]; simp [h5])
    go_wp2
    go_ret
    exact ⟨by rw [HR.out]; rfl, HB1.out⟩
  have HR := Lib.hid (show decide (z ≤ 4096) = f by rw [HF.out]; simp [h1, h2, h3, h4, h5])
  go_wp2
  go_ret
  exact ⟨congrArg (fun t => Ending.returned (Value.bool t)) HR.out, HB1.out⟩

theorem ret_nat {a : Int} {b : Nat} (h : a = (b : Int)) : Ending.returned (Value.int IntKind.i64 a) = Ending.returned (Value.int IntKind.i64 (b : Nat)) := by rw [h]
theorem byteAt (s : List UInt8) (i : Nat) (h : i < s.length) : ((({ data := s.toArray } : ByteArray)[i]'h).toNat : Nat) = s[i].toNat := rfl
theorem take_drop_at {s : List UInt8} {z i : Nat} (h : i < (s.take z).length) : (s.take z)[i] = s[i]'(by rw [List.length_take] at h; omega) := List.getElem_take ..
/-- The middle of the text, from place i on. -/
theorem goC_step {k x i z : Nat} {h : Int} {s : List UInt8} (_ : x ≤ i) (hi : i < s.length) (hz : i < z) :
    goC k i h ((s.take z).drop i) = if cutB k i (rollG h s[i]) = true then i + 1 else goC k (i + 1) (rollG h s[i]) ((s.take z).drop (i + 1)) := by
  have hl : i < (s.take z).length := by rw [List.length_take]; omega
  have := goC_at (k := k) (i := i) (h := h) hl
  rwa [List.getElem_take] at this
theorem goC_stop {k i z : Nat} {h : Int} {s : List UInt8} (hi : min s.length z ≤ i) : goC k i h ((s.take z).drop i) = i :=
  goC_end (by rw [List.length_take]; omega)

set_option maxHeartbeats 4000000 in
set_option maxRecDepth 100000 in
theorem r07cut_walk (x k y z : Nat) (s : List UInt8) (w : World) (hf : FitC x k z) (hpk : 2 ^ k = y) (hs : s.length ≤ 1100000) :
    Calls Tryz.prog 112 #[PrmV x y z, S s] w fun e w' => e = .returned (.int .i64 (cutC x k z s : Nat)) ∧ Below w.heap.size w w' := by
  obtain ⟨w1, hw1, HB1, c0, c1, c2⟩ : ∃ w1, w1 = w.alloc (.cells #[.int .i64 (x : Nat), .int .i64 (y : Nat), .int .i64 (z : Nat)] 51) ∧ Hid (Below w.heap.size w w1) ∧ w1.cell? ⟨w.heap.size, 0, none⟩ = some (.int .i64 (x : Nat)) ∧ w1.cell? ⟨w.heap.size, 1, none⟩ = some (.int .i64 (y : Nat)) ∧ w1.cell? ⟨w.heap.size, 2, none⟩ = some (.int .i64 (z : Nat)) :=
    ⟨_, rfl, Lib.hid ((Below.refl _ _).alloc (Nat.le_refl _) _), cell_new _ _ _ 0 rfl, cell_new _ _ _ 1 rfl, cell_new _ _ _ 2 rfl⟩
  have h1 := hf.k1
  have h2 := hf.k12
  have h3 := hf.xy
  have h4 := hf.yz
  have CP := r07power_walk ((2 ^ k : Nat) : Int) w1
  rw [powI_pow (by omega)] at CP
  rw [hpk] at CP h3 h4
  have CB := fun (h : Int) (m : Nat) => r07blank_walk h m w1
  have CR := fun (h : Int) (b : UInt8) => r06roll_walk h b w1
  have HC := Lib.hid (show cutC x k z s = if s.length ≤ x then s.length else goC k x 0 ((s.take z).drop x) from rfl)
  have HST := Lib.hid (fun (i : Nat) (h : Int) (hx : x ≤ i) (hi : i < s.length) (hz : i < z) => goC_step (k := k) (h := h) hx hi hz)
  have HSP := Lib.hid (fun (i : Nat) (h : Int) (hi : min s.length z ≤ i) => goC_stop (k := k) (h := h) hi)
  have HLO := Lib.hid (fun (i : Nat) (h : Int) (hi : i < y) => show cutB k i h = decide (h < 2 ^ (64 - (k + 1))) by unfold cutB; rw [hpk, if_pos hi, show 63 - k = 64 - (k + 1) by omega])
  have HHI := Lib.hid (fun (i : Nat) (h : Int) (hi : ¬ i < y) => show cutB k i h = decide (h < 2 ^ (64 - (k - 1))) by unfold cutB; rw [hpk, if_neg hi, show 65 - k = 64 - (k - 1) by omega])
  generalize cutC x k z s = cc at *
  clear hpk
  go_enter Tryz.func112, Tryz.ntmps112
  go_upto_region 1 with fail
  rw [← hw1]
  clear hw1
  by_cases g1 : s.length ≤ x
  · have HCC := Lib.hid (show cc = s.length by rw [HC.out, if_pos g1])
    have g1' : (s.length : Int) ≤ (x : Int) := by omega
    go_wp2
    go_ret
    exact ⟨by rw [HCC.out]; rfl, HB1.out⟩
  · have HCC := Lib.hid (show cc = goC k x 0 ((s.take z).drop x) by rw [HC.out, if_neg g1])
    have g1' : ¬ (s.length : Int) ≤ (x : Int) := by omega
    have hmin : min (s.length : Int) (z : Int) = ((min s.length z : Nat) : Int) := by omega
    go_wp2_with fail
    refine CP.mono ?_
    rintro e w2 ⟨rfl, rfl⟩
    go_upto_region 4 with fail
    go_cut [6] from 19 (fun v w' => w2 = w' ∧ v = .int .i64 ((min s.length z : Nat) : Int))
    case first =>
      by_cases gm : z < s.length
      · have gm' : (z : Int) < (s.length : Int) := by omega
        clear hmin
        go_wp2
        go_meet
        case rel => exact ⟨rfl, congrArg (Value.int .i64) (by omega)⟩
      · have gm' : ¬ (z : Int) < (s.length : Int) := by omega
        clear hmin
        go_wp2
        go_meet
        case rel => exact ⟨rfl, congrArg (Value.int .i64) (by omega)⟩
    case rest =>
    obtain ⟨rfl, rfl⟩ := hcut
    clear hmin CP
    go_wp2
    go_loopw [7, 8] (fun hv i wr => wr = w2 ∧ ∃ (j : Nat) (h : Int), x ≤ j ∧ j ≤ min s.length z ∧ 0 ≤ h ∧ h < 18446744073709551616 ∧ i = .int .i64 j ∧ hv = .int .u64 h ∧ cc = goC k j h ((s.take z).drop j)) (fun _ i _ => s.length - (intOf i).toNat)
    case atStart => exact ⟨rfl, x, 0, Nat.le_refl _, by omega, by omega, by omega, rfl, rfl, HCC.out⟩
    case round =>
      obtain ⟨rfl, j, h, hj, hjm, hh0, hh1, rfl, rfl, hcc⟩ := hrel
      have HCJ := Lib.hid hcc
      clear hcc
      by_cases g2 : j < min s.length z
      · have g2' : (j : Int) < ((min s.length z : Nat) : Int) := by omega
        have hjs : j < s.length := by omega
        have HS := Lib.hid (HCJ.out.trans (HST.out j h hj hjs (by omega)))
        have CR2 := CR h s[j]
        have HRG := Lib.hid (rollG_range h s[j])
        clear CR HCJ
        generalize rollG h s[j] = h' at *
        have CBL := CB h' (k + 1) HRG.out.1 HRG.out.2 (by omega)
        have CBH := CB h' (k - 1) HRG.out.1 HRG.out.2 (by omega)
        rw [show ((k - 1 : Nat) : Int) = (k : Int) - 1 by omega] at CBH
        rw [show ((k + 1 : Nat) : Int) = (k : Int) + 1 by omega] at CBL
        clear CB
        go_wp2_with fail
        refine CR2.mono ?_
        rintro e w3 ⟨rfl, rfl⟩
        clear CR2
        by_cases g3 : j < y
        · have g3' : (j : Int) < (y : Int) := by omega
          have HB := Lib.hid (HLO.out j h' g3)
          clear CBH
          cases hd : decide (h' < 2 ^ (64 - (k + 1))) with
          | true =>
            rw [hd] at CBL HB
            have HE := Lib.hid (HS.out.trans (if_pos HB.out))
            clear hd
            go_wp2_with fail
            refine CBL.mono ?_
            rintro e w4 ⟨rfl, rfl⟩
            go_wp2
            go_ret
            exact ⟨by rw [HE.out]; exact ret_nat (by omega), HB1.out⟩
          | false =>
            rw [hd] at CBL HB
            have HE := Lib.hid (HS.out.trans (if_neg (by rw [HB.out]; decide)))
            clear hd
            go_wp2_with fail
            refine CBL.mono ?_
            rintro e w4 ⟨rfl, rfl⟩
            go_wp2
            go_roundw
            case rel => exact ⟨trivial, j + 1, h', by omega, by omega, HRG.out.1, HRG.out.2, by go_num, rfl, HE.out⟩
            case measure => simp [intOf]; omega
        · have g3' : ¬ (j : Int) < (y : Int) := by omega
          have HB := Lib.hid (HHI.out j h' g3)
          clear CBL
          cases hd : decide (h' < 2 ^ (64 - (k - 1))) with
          | true =>
            rw [hd] at CBH HB
            have HE := Lib.hid (HS.out.trans (if_pos HB.out))
            clear hd
            go_wp2_with fail
            refine CBH.mono ?_
            rintro e w4 ⟨rfl, rfl⟩
            go_wp2
            go_ret
            exact ⟨by rw [HE.out]; exact ret_nat (by omega), HB1.out⟩
          | false =>
            rw [hd] at CBH HB
            have HE := Lib.hid (HS.out.trans (if_neg (by rw [HB.out]; decide)))
            clear hd
            go_wp2_with fail
            refine CBH.mono ?_
            rintro e w4 ⟨rfl, rfl⟩
            go_wp2
            go_roundw
            case rel => exact ⟨trivial, j + 1, h', by omega, by omega, HRG.out.1, HRG.out.2, by go_num, rfl, HE.out⟩
            case measure => simp [intOf]; omega
      · have g2' : ¬ (j : Int) < ((min s.length z : Nat) : Int) := by omega
        have HS := Lib.hid (show ((min s.length z : Nat) : Int) = (cc : Nat) by rw [HCJ.out.trans (HSP.out j h (by omega))]; have := hjm; omega)
        go_wp2
        go_ret
        exact ⟨congrArg (fun t => Ending.returned (Value.int IntKind.i64 t)) HS.out, HB1.out⟩

/-- A text's length, of its value. -/
def lenV : Value → Nat | .string b => b.size | _ => 0
theorem lenV_S (r : List UInt8) : lenV (S r) = r.length := by simp [lenV, ByteArray.size]
theorem cut_lo (r : List UInt8) (n : Nat) : cutL r 0 n = r.take n := by simp [cutL]
theorem cut_hi (r : List UInt8) (n : Nat) : cutL r n r.length = r.drop n := by simp [cutL]

set_option maxHeartbeats 4000000 in
set_option maxRecDepth 100000 in
theorem r07pieces_walk (x k y z : Nat) (s : List UInt8) (w : World) (hf : FitC x k z) (hpk : 2 ^ k = y) (hs : s.length ≤ 1100000) :
    Calls Tryz.prog 89 #[PrmV x y z, S s] w fun e w' => ∃ v, e = .returned v ∧ w'.ownsRow (w.heap.size + 1) 9 1 v (piecesC x k z s).length ((piecesC x k z s).map S) ∧ Below w.heap.size w w' := by
  obtain ⟨i0, hi, hz0, hz1, hz2⟩ := info_parts infoStr
  obtain ⟨w1, hw1, HB1, hc⟩ : ∃ w1, w1 = w.alloc (.cells #[.int .i64 (x : Nat), .int .i64 (y : Nat), .int .i64 (z : Nat)] 51) ∧ Below w.heap.size w w1 ∧ w1.heap[w.heap.size]? = some (.cells #[.int .i64 (x : Nat), .int .i64 (y : Nat), .int .i64 (z : Nat)] 51 (0, 0)) :=
    ⟨_, rfl, (Below.refl _ _).alloc (Nat.le_refl _) _, heap_alloc_new _ _⟩
  have HF := Lib.hid hf
  have HSZ := Lib.hid (show w1.heap.size = w.heap.size + 1 by rw [hw1]; simp)
  have HS1 := Lib.hid (heap_lt hc)
  have HCC := Lib.hid hc
  have CC := fun (r : List UInt8) (W : World) (h : r.length ≤ 1100000) => r07cut_walk x k y z r W hf hpk h
  clear hc hf
  clear hpk
  go_enter Tryz.func89, Tryz.ntmps89
  go_upto_region 2 with fail
  rw [← hw1]
  clear hw1
  go_loopw [1, 5, 6] (fun sv v _ wr => ∃ (r : List UInt8) (dn : List (List UInt8)), sv = S r ∧ wr.ownsRow (w.heap.size + 1) 9 1 v dn.length (dn.map S) ∧ Below w1.heap.size w1 wr ∧ Hid (piecesC x k z s = dn ++ piecesC x k z r) ∧ r.length + dn.length ≤ s.length) (fun sv _ _ _ => lenV sv)
  case atStart => exact ⟨s, [], rfl, World.ownsRow_nil _ _ _ _, Below.refl _ _, Lib.hid rfl, by simp⟩
  case round =>
    obtain ⟨r, dn, rfl, hown, hB, HP, hl⟩ := hrel
    have HB := Lib.hid hB
    obtain ⟨⟨c0, c1, c2⟩, -⟩ : (wr.cell? ⟨w.heap.size, 0, none⟩ = some (.int .i64 (x : Nat)) ∧ wr.cell? ⟨w.heap.size, 1, none⟩ = some (.int .i64 (y : Nat)) ∧ wr.cell? ⟨w.heap.size, 2, none⟩ = some (.int .i64 (z : Nat))) ∧ True :=
      ⟨⟨heap_cell ((hB.block _ HS1.out).trans HCC.out) (j := 0) rfl, heap_cell ((hB.block _ HS1.out).trans HCC.out) (j := 1) rfl, heap_cell ((hB.block _ HS1.out).trans HCC.out) (j := 2) rfl⟩, trivial⟩
    by_cases hr : r = []
    · subst hr
      have HR := Lib.hid hown
      go_wp2
      go_ret
      exact ⟨_, rfl, by rw [HP.out, piecesC_nil, List.append_nil]; exact HR.out, HB1.trans (HB.out.mono HB1.size)⟩
    · have hne : (r == []) = false := by rw [beq_eq_false_iff_ne]; exact hr
      have C := CC r wr (by omega)
      have HCP := Lib.hid (cutC_pos HF.out hr)
      have HCL := Lib.hid (cutC_le (x := x) (k := k) (z := z) (s := r))
      have HPC := Lib.hid (piecesC_cons HF.out hr)
      have hle : cutC x k z r ≤ r.length := cutC_le
      have HOWN := Lib.hid hown
      clear CC hB hown hr
      generalize cutC x k z r = n at *
      go_wp2_with fail
      refine C.mono ?_
      rintro e w2 ⟨rfl, hb2⟩
      have hown2 := own_on HOWN.out hb2
      have HB2 := Lib.hid (below_chain HB.out hb2 HB.out.size)
      have hn1 : (n : Int) ≤ (r.length : Int) := by omega
      clear C hb2 c0 c1 c2
      go_wp2_with (at_builtin; refine wpList_append_own _ rfl _ _ 23 rfl (w.heap.size + 1) 9 i0 (.string ⟨#[]⟩) 1 16 Tryz.underlying23 hi hz0 hz1 hz2 rfl (by decide) _ _ _ rfl (hown2.alloc _) ⟨w2.heap.size, 0, none⟩ 1 1 [.string (({ data := r.toArray } : ByteArray).extract 0 n)] rfl rfl ?c1 ?c2 ?c3 ?c4 ?c5 ?_)
      case c1 => exact new_cell _ _ _
      case c2 => intro u hu; simp at hu; subst hu; rfl
      case c3 => unfold maxLen; omega
      case c4 => omega
      case c5 => simp; have := HB2.out.size; have := HS1.out; omega
      intro v' w3 hown' hgrow _
      have HB3 := Lib.hid ((HB2.out.alloc HB2.out.size _).grown hgrow (by simp; have := HB2.out.size; omega) (fun j hj => by have := (hown2.lt j hj).1; have := HSZ.out; omega))
      have HO := Lib.hid hown'
      clear hown' hgrow hown2
      go_wp2
      go_roundw
      case rel =>
        refine ⟨r.drop n, dn ++ [r.take n], ?_, ?_, HB3.out, Lib.hid (by rw [HP.out, HPC.out, List.append_assoc]; rfl), by have := HCP.out; simp; omega⟩
        · rw [← cut_hi]; exact S_extract _ _ _
        · have := HO.out
          rw [S_extract, cut_lo] at this
          simpa using this
      case measure =>
        have h7 := S_extract r n r.length
        rw [cut_hi] at h7
        have := HCP.out
        refine Nat.lt_of_le_of_lt (Nat.le_of_eq (congrArg lenV h7)) ?_
        rw [lenV_S, lenV_S, List.length_drop]
        omega
end Go.Proofs.YtaompdnnkfmjhaaGreatDoor
