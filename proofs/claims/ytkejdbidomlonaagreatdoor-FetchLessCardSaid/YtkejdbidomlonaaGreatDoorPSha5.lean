/- The program's sum of a text. -/
import Derived.Test.YtkejdbidomlonaaGreatDoorJPSha3
import Derived.Test.YtkejdbidomlonaaGreatDoorJItB
namespace Go.Proofs.YtkejdbidomlonaaGreatDoor
open Go.RowKit

set_option maxHeartbeats 2000000 in
set_option maxRecDepth 100000 in
theorem reset_walk (B b : Nat) (p v : Value) (w : World) (hB : B ≤ b) (h : w.heap[b]? = some (.cells #[p, v] 154 (0, 0))) :
    Calls Tryz.prog 126 #[.pointer (some ⟨b, 0, none⟩)] w fun e w' => e = .returned (.tuple #[]) ∧ IsBld B b [] w' ∧ Below B w w' := by
  have c0 := arr_cell h (i := 0) (v := p) rfl
  have c1 := arr_cell h (i := 1) (v := v) rfl
  have s0 := is_some c0
  have s1 := is_some c1
  have f0 := arr_frozen (i := 0) h
  have f1 := arr_frozen (i := 1) h
  have H := Lib.hid h
  clear h
  go_enter Tryz.func126, Tryz.ntmps126
  go_wp2
  go_end0
  refine ⟨rfl, .inl ⟨hB, .slice none 0 0, ?_, World.ownsRow_nil _ _ _ _, by simp [Value.ownBlock]⟩, ?_⟩
  · rw [heap_setCell_same _ b 1 #[.pointer none, v] _ _ (by rw [heap_setCell_same w b 0 _ _ _ H.out]; rfl)]
    rfl
  · exact ((Below.refl B w).setCell (p := ⟨b, 0, none⟩) hB _).setCell (p := ⟨b, 1, none⟩) hB _

def sizeAt (w : World) (g : Nat) : Nat := (intOf ((w.cell? ⟨g, 8, none⟩).getD undef)).toNat
theorem IsFeed.size {w : World} {g : Nat} {xs : List UInt8} (h : IsFeed w g xs) : w.cell? ⟨g, 8, none⟩ = some (.int .u64 xs.length) := by
  obtain ⟨part, -, -, hz⟩ := h
  exact arr_cell hz (i := 8) rfl
theorem IsFeed.sizeAt {w : World} {g : Nat} {xs : List UInt8} (h : IsFeed w g xs) : sizeAt w g = xs.length := by
  unfold Proofs.YtkejdbidomlonaaGreatDoor.sizeAt
  rw [h.size]
  simp [intOf]
theorem IsFeed.below {w w' : World} {g : Nat} {xs : List UInt8} (h : IsFeed w g xs) (hb : Below w.heap.size w w') : IsFeed w' g xs := by
  obtain ⟨part, h1, h2, hz⟩ := h
  exact ⟨part, h1, h2, (hb.block g (heap_lt hz)).trans hz⟩
theorem IsFeed.on {w w' : World} {g B : Nat} {xs : List UInt8} (h : IsFeed w g xs) (hb : Below B w w') (hg : g < B) : IsFeed w' g xs := by
  obtain ⟨part, h1, h2, hz⟩ := h
  exact ⟨part, h1, h2, (hb.block g hg).trans hz⟩
theorem gro_over {w w1 w2 : World} {g B : Nat} (h : Gro g w w1) (hb : Below B w1 w2) (hB : w.heap.size ≤ B) : Gro g w w2 :=
  ⟨hb.os.trans h.os, hb.tape.trans h.tape, hb.output.trans h.output, Nat.le_trans h.size hb.size, fun k hk hne => (hb.block k (Nat.lt_of_lt_of_le hk hB)).trans (h.block k hk hne)⟩
theorem IsFeed.lt {w : World} {g : Nat} {xs : List UInt8} (h : IsFeed w g xs) : g < w.heap.size := by
  obtain ⟨part, -, -, hz⟩ := h
  exact heap_lt hz
theorem IsFeed.words {w : World} {g : Nat} {xs : List UInt8} (h : IsFeed w g xs) {j : Nat} {u : Value} (hu : ((feedH xs).words.map wV)[j]? = some u) : w.cell? ⟨g, j, none⟩ = some u := by
  obtain ⟨part, -, -, hz⟩ := h
  refine arr_cell hz (i := j) ?_
  have hi : j < ((feedH xs).words.map wV).length := (List.getElem?_eq_some_iff.1 hu).1
  rw [List.getElem?_toArray, feedC, List.getElem?_append_left hi]
  exact hu

theorem conv_bytes (W : World) (g c : Nat) (l : List UInt8) (h : ∀ j x, l[j]? = some x → W.cell? ⟨g, j, none⟩ = some (.int .u8 ((x.toNat : Nat) : Int))) : (convert 89 9 (.slice (some ⟨g, 0, none⟩) l.length c)).run Tryz.prog W = .ok (S l) W := by
  refine run_convert_bytes_back W _ _ 5 _ _ l Tryz.underlying89 Tryz.underlying5 Tryz.underlying9 fun j hj => ?_
  have := h j l[j] (by simp [hj])
  rw [show ((⟨g, 0, none⟩ : Addr).add j) = ⟨g, j, none⟩ by unfold Addr.add; split <;> simp_all]
  exact this

theorem bld_over {B b : Nat} {l : List UInt8} {w w' : World} (h : IsBld B b l w) (hb : Below w.heap.size w w') : IsBld B b l w' := by
  rcases h with ⟨hB, v, hbk, hown, hne⟩ | ⟨hB, v, hbk, hown, hne⟩
  · exact .inl ⟨hB, v, (hb.block b (heap_lt hbk)).trans hbk, own_on hown hb, hne⟩
  · exact .inr ⟨hB, v, (hb.block b (heap_lt hbk)).trans hbk, own_on hown hb, hne⟩

theorem conv_word (x : Nat) (w : World) : (convert 89 9 (.slice (some ⟨w.heap.size, 0, none⟩) 4 4)).run Tryz.prog (w.alloc (.cells #[.int .u8 ((x : Int) / 16777216 % 256), .int .u8 ((x : Int) / 65536 % 256), .int .u8 ((x : Int) / 256 % 256), .int .u8 ((x : Int) % 256)] 5)) = .ok (S (wordBytes x)) (w.alloc (.cells #[.int .u8 ((x : Int) / 16777216 % 256), .int .u8 ((x : Int) / 65536 % 256), .int .u8 ((x : Int) / 256 % 256), .int .u8 ((x : Int) % 256)] 5)) := by
  refine conv_bytes _ w.heap.size 4 (wordBytes x) fun j y hj => ?_
  refine cell_new _ _ _ _ ?_
  match j, hj with
  | 0, hj => obtain rfl := Option.some.inj hj; rw [ofNat_nat]; rfl
  | 1, hj => obtain rfl := Option.some.inj hj; rw [ofNat_nat]; rfl
  | 2, hj => obtain rfl := Option.some.inj hj; rw [ofNat_nat]; rfl
  | 3, hj => obtain rfl := Option.some.inj hj; rw [ofNat_nat]; rfl

set_option maxHeartbeats 8000000 in
set_option maxRecDepth 100000 in
theorem psum_walk (g : Nat) (xs : List UInt8) (w : World) (h : IsFeed w g xs) (hx : xs.length ≤ 1100000) :
    Calls Tryz.prog 89 #[.pointer (some ⟨g, 0, none⟩)] w fun e w' => e = .returned (S (shaF xs)) ∧ Gro g w w' := by
  have e8 := h.size
  have CF := feed_walk g xs [128] w h (by simp; omega)
  have HL := Lib.hid h.lt
  clear h
  go_enter Tryz.func89, Tryz.ntmps89
  go_wp2_with fail
  refine CF.mono ?_
  rintro e w1 ⟨rfl, hf1, hG1⟩
  clear CF e8
  have HF1 := Lib.hid hf1
  have HG1 := Lib.hid hG1
  clear hf1 hG1
  go_wp2
  go_loopw [22] (fun _ wr => ∃ j : Nat, IsFeed wr g (xs ++ [128] ++ List.replicate j 0) ∧ zerosN (xs.length + 1) = zerosN (xs.length + 1 + j) + j ∧ Gro g w wr) (fun _ wr => zerosN (sizeAt wr g))
  case atStart => exact ⟨0, by simpa using HF1.out, rfl, HG1.out⟩
  case round =>
    obtain ⟨j, hf, hj, hG⟩ := hrel
    have hzl := zerosN_lt (xs.length + 1)
    have e8 := hf.size
    have hlen : (xs ++ [128] ++ List.replicate j 0).length = xs.length + 1 + j := by simp only [List.length_append, List.length_replicate, List.length_singleton]
    rw [hlen] at e8
    have HSZ := Lib.hid (hf.sizeAt.trans hlen)
    have CF := feed_walk g _ [0] wr hf (by rw [hlen]; simp; omega)
    have HF := Lib.hid hf
    have HJ := Lib.hid hj
    have HG := Lib.hid hG
    have hjl : j < 64 := by omega
    clear hf hG hlen hj
    obtain ⟨m, hm⟩ : ∃ m, xs.length + 1 + j = m := ⟨_, rfl⟩
    rw [hm] at e8 HSZ HJ
    have hml : m ≤ 2000000 := by omega
    by_cases h56 : m % 64 = 56
    · have h56' : ((m : Int) % 64 == 56) = true := by rw [beq_iff_eq]; omega
      have h56n : (!((m : Int) % 64 == 56)) = false := by rw [h56']; rfl
      have h56m : ((m : Int) % 64 != 56) = false := by rw [bne, h56']; rfl
      have hz0 := zerosN_zero h56
      have HFP : Hid (IsFeed wr g (padZ xs)) := Lib.hid (by
        have := HF.out
        have hj2 := HJ.out
        unfold padZ
        rw [hj2, hz0, Nat.zero_add]
        exact this)
      clear HF HJ hz0 h56 CF
      obtain ⟨wo, rfl⟩ : ∃ wo : World, wo = wr := ⟨_, rfl⟩
      obtain ⟨w2, hw2, hb2, hbl⟩ : ∃ w2, w2 = wo.alloc (.cells #[.pointer none, .slice none 0 0] 154) ∧ Below wo.heap.size wo w2 ∧ IsBld wo.heap.size wo.heap.size [] w2 :=
        ⟨_, rfl, (Below.refl _ _).alloc (Nat.le_refl _) _, Lib.fresh_isBuilder _ _ _⟩
      have HB2 := Lib.hid hb2
      have HBL := Lib.hid hbl
      clear hb2 hbl
      go_upto_region 6 with fail
      rw [← hw2]
      clear hw2
      go_wp2
      go_loopw [5] (fun k w' => ∃ j : Nat, j ≤ 8 ∧ k = .int .i64 (56 - 8 * (j : Int)) ∧ IsBld wo.heap.size wo.heap.size ((bytes8 (xs.length * 8)).take j) w' ∧ Below wo.heap.size wo w') (fun k _ => (intOf k + 8).toNat)
      case atStart => exact ⟨0, Nat.zero_le _, rfl, HBL.out, HB2.out⟩
      case round =>
        obtain ⟨i, hi, rfl, hbl, hbw⟩ := hrel
        by_cases h1 : i < 8
        · have h1' : 0 ≤ 56 - 8 * (i : Int) := by omega
          have h2' : 56 - 8 * (i : Int) ≤ 64 := by omega
          have h4' : 8 * (i : Int) ≤ 56 := by omega
          have h3' : (56 - 8 * (i : Int)).toNat = 56 - 8 * i := by omega
          have hi8 : i < (bytes8 (xs.length * 8)).length := h1
          have HT := Lib.hid (List.take_succ_eq_append_getElem hi8)
          obtain ⟨c, hc⟩ : ∃ c, (bytes8 (xs.length * 8))[i] = c := ⟨_, rfl⟩
          have hcn := bytes8_at (xs.length * 8) i hi8
          rw [hc] at HT hcn
          have HC := Lib.hid hcn
          clear hc hi8 hcn
          have CW := fun cv (hcv : cv = ((c.toNat : Nat) : Int)) => wbyte_walk wo.heap.size wo.heap.size _ c cv wr hcv hbl (by rw [List.length_take]; omega) hbw.size
          have HBW := Lib.hid hbw
          clear hbl hbw
          go_wp2_with fail
          refine (CW _ (by rw [HC.out, Int.natCast_emod, Int.natCast_ediv, Int.natCast_mul, Int.natCast_pow]; rfl)).mono ?_
          rintro e w3 ⟨rfl, hbl3, hb3⟩
          have HBL3 := Lib.hid hbl3
          have HB3 := Lib.hid (HBW.out.trans hb3)
          clear hbl3 hb3 CW
          go_wp2
          go_roundw
          case rel => exact ⟨i + 1, by omega, congrArg (Value.int IntKind.i64) (by omega), by rw [HT.out]; exact HBL3.out, HB3.out⟩
          case measure => simp [intOf]; omega
        · obtain rfl : i = 8 := by omega
          rw [show (bytes8 (xs.length * 8)).take 8 = bytes8 (xs.length * 8) from rfl] at hbl
          rw [show (56 - 8 * ((8 : Nat) : Int)) = -8 from rfl]
          have hgw := HFP.out.lt
          obtain ⟨w4, rfl⟩ : ∃ w4 : World, w4 = wr := ⟨_, rfl⟩
          have hfp : IsFeed w4 g (padZ xs) := HFP.out.below hbw
          have HG4 := Lib.hid (gro_chain HG.out hbw)
          have HWB := Lib.hid (HG.out.size)
          have CS := Tryz.Builder_String_any_f wo.heap.size wo.heap.size (bytes8 (xs.length * 8)) w4 (by
            rcases hbl with h | h
            · exact .inl (Lib.BuilderAtF.of h)
            · exact .inr (Lib.BuilderAtF.of h)) hbw.size
          have HBW := Lib.hid hbw
          have HFP4 := Lib.hid hfp
          have HGW := Lib.hid hgw
          clear hbl hfp hbw hgw HFP HB2 HBL HG HSZ e8 h1
          go_wp2_with fail
          refine CS.mono ?_
          rintro e w5 ⟨rfl, hbf5, hb5⟩
          have hfp5 := HFP4.out.on hb5 HGW.out
          have HG5 := Lib.hid (gro_over HG4.out hb5 HWB.out)
          have hz5 := hb5.size
          have hblk : ∃ p v, w5.heap[wo.heap.size]? = some (.cells #[p, v] 154 (0, 0)) := by
            rcases hbf5 with h | h
            · obtain ⟨-, v, hv, -⟩ := h
              exact ⟨_, v, hv⟩
            · obtain ⟨-, v, hv, -⟩ := h
              exact ⟨_, v, hv⟩
          obtain ⟨p, v, hblk⟩ := hblk
          have CF5 := feed_walk g (padZ xs) (bytes8 (xs.length * 8)) w5 hfp5 (by have := padZ_le xs; simp only [bytes8, List.length_cons, List.length_nil]; omega)
          have HBK := Lib.hid hblk
          have HS5 := Lib.hid (Nat.le_trans HBW.out.size hz5)
          clear CS hbf5 hb5 hfp5 hz5 hblk HFP4
          go_wp2_with fail
          refine CF5.mono ?_
          rintro e w6 ⟨rfl, hf6, hG6⟩
          have hblk6 : w6.heap[wo.heap.size]? = some (.cells #[p, v] 154 (0, 0)) :=
            (hG6.block wo.heap.size (heap_lt HBK.out) (fun e => by have := HGW.out; have := Option.some.inj e; omega)).trans HBK.out
          have CR := reset_walk wo.heap.size wo.heap.size p v w6 (Nat.le_refl _) hblk6
          have HF6 : Hid (IsFeed w6 g (padS xs)) := Lib.hid hf6
          have HG6 := Lib.hid (World.grownBy.trans HG5.out hG6)
          have HS6 := Lib.hid (Nat.le_trans HS5.out hG6.size)
          clear CF5 hf6 hG6 hblk6
          go_wp2_with fail
          refine CR.mono ?_
          rintro e w7 ⟨rfl, hbl7, hb7⟩
          have hf7 := HF6.out.on hb7 HGW.out
          have HG7 := Lib.hid (gro_over HG6.out hb7 HWB.out)
          have HS7 := Lib.hid (Nat.le_trans HS6.out hb7.size)
          have hl7 : (loadVar 93 ⟨g, 0, none⟩).run Tryz.prog w7 = .ok (.agg ((feedH (padS xs)).words.map wV).toArray) w7 :=
            run_load_part w7 g 0 _ _ _ (fun j u h => by rw [Nat.zero_add]; exact hf7.words h) Tryz.underlying93 rfl (by kernel_rfl)
          have HBL7 := Lib.hid hbl7
          have HSH := Lib.hid (show shaF xs = (feedH (padS xs)).words.flatMap wordBytes from rfl)
          have HOK := Lib.hid (feedH_ok (padS xs))
          generalize feedH (padS xs) = R at *
          clear CR hbl7 hb7 hf7
          go_wp2_with (refine wpList_load_at rfl 93 _ rfl ⟨g, 0, none⟩ rfl _ hl7 ?_; simp only [Act.put])
          obtain ⟨wq, rfl⟩ : ∃ wq : World, wq = w7 := ⟨_, rfl⟩
          go_loopw [43] (fun k w' => ∃ j : Nat, j ≤ 8 ∧ k = .int .i64 j ∧ IsBld wo.heap.size wo.heap.size ((R.words.take j).flatMap wordBytes) w' ∧ Gro g w w' ∧ wo.heap.size ≤ w'.heap.size) (fun k _ => 8 - (intOf k).toNat)
          case atStart => exact ⟨0, Nat.zero_le _, rfl, HBL7.out, HG7.out, HS7.out⟩
          case round =>
            obtain ⟨k, hk, rfl, hbl, hgr, hsz⟩ := hrel
            by_cases h1 : k < 8
            · have h1' : (k : Int) < 8 := by omega
              have hkl : k < R.words.length := h1
              have hix : ∀ W : World, (Instr.index 93 (.agg (R.words.map wV).toArray) (.int .i64 k)).run Tryz.prog W = .ok (.int .u32 ((R.words[k] : Nat) : Int)) W :=
                run_index_agg 93 91 8 k _ _ _ Tryz.underlying93 Tryz.underlying91 rfl (by kernel_rfl) h1 (map_at (f := wV) hkl)
              have HT := Lib.hid (flat_snoc hkl)
              have hfl : ((R.words.take k).flatMap wordBytes).length ≤ 100 := by rw [wordBytes_flat, List.length_take]; omega
              generalize R.words[k] = x at *
              clear hkl
              have hcv := conv_word x wr
              have hbl2 := bld_over hbl (Below.alloc (Below.refl wr.heap.size wr) (Nat.le_refl _) (.cells #[.int .u8 ((x : Int) / 16777216 % 256), .int .u8 ((x : Int) / 65536 % 256), .int .u8 ((x : Int) / 256 % 256), .int .u8 ((x : Int) % 256)] 5))
              have CW := wstr_walk wo.heap.size wo.heap.size _ (wordBytes x) _ hbl2 (by omega) (by simp [wordBytes]) (by simp [wordBytes]) (by simp; omega)
              have HGR := Lib.hid hgr
              have HSZ := Lib.hid hsz
              clear hbl hgr hsz
              go_wp2_with fail
              refine CW.mono ?_
              rintro e w8 ⟨⟨q, rfl⟩, hbl8, hb8⟩
              have HB8 : Hid (IsBld wo.heap.size wo.heap.size ((R.words.take (k + 1)).flatMap wordBytes) w8) := Lib.hid (by rw [HT.out]; exact hbl8)
              have HG8 := Lib.hid (gro_over (gro_over HGR.out (Below.alloc (Below.refl wr.heap.size wr) (Nat.le_refl _) _) (Nat.le_trans HWB.out HSZ.out)) hb8 HWB.out)
              have HS8 := Lib.hid (Nat.le_trans (Nat.le_trans HSZ.out (by simp)) hb8.size)
              clear hbl8 hb8 CW hbl2 hcv
              go_wp2
              go_roundw
              case rel => exact ⟨k + 1, by omega, by go_num, HB8.out, HG8.out, HS8.out⟩
              case measure => simp [intOf]; omega
            · obtain rfl : k = 8 := by omega
              rw [show R.words.take 8 = R.words from rfl] at hbl
              have CT := bstring_walk wo.heap.size wo.heap.size _ wr hbl hsz
              have HGR := Lib.hid hgr
              clear hbl hgr h1
              rw [show ((8 : Nat) : Int) = 8 from rfl]
              go_wp2_with fail
              refine CT.mono ?_
              rintro e w8 ⟨rfl, hb8⟩
              have HG8 := Lib.hid (gro_over HGR.out hb8 HWB.out)
              clear CT hb8
              go_wp2
              go_ret
              exact ⟨by rw [HSH.out]; rfl, HG8.out⟩
    · have h56' : ((m : Int) % 64 == 56) = false := by rw [beq_eq_false_iff_ne]; omega
      have h56n : (!((m : Int) % 64 == 56)) = true := by rw [h56']; rfl
      have h56m : ((m : Int) % 64 != 56) = true := by rw [bne, h56']; rfl
      have hzs := zerosN_succ h56
      have HZS := Lib.hid hzs
      have HM := Lib.hid hm
      clear h56 hzs hm
      go_wp2_with fail
      refine CF.mono ?_
      rintro e w2 ⟨rfl, hf2, hG2⟩
      have HF2 : Hid (IsFeed w2 g (xs ++ [128] ++ List.replicate (j + 1) 0)) := Lib.hid (by
        rw [List.replicate_succ', ← List.append_assoc]
        exact hf2)
      have HS2 : Hid (sizeAt w2 g = m + 1) := Lib.hid (by
        rw [hf2.sizeAt]
        simp only [List.length_append, List.length_replicate, List.length_singleton]
        have := HM.out
        omega)
      have HG2 := Lib.hid (World.grownBy.trans HG.out hG2)
      clear hf2 hG2 CF e8
      go_wp2
      go_roundw
      case rel => exact ⟨j + 1, HF2.out, by have h1 := HJ.out; have h2 := HZS.out; have h3 := HM.out; rw [h1, h2, show xs.length + 1 + (j + 1) = m + 1 by omega]; omega, HG2.out⟩
      case measure => rw [HS2.out, HSZ.out, HZS.out]; omega

set_option maxHeartbeats 8000000 in
set_option maxRecDepth 100000 in
theorem pjoin_walk (g c : Nat) (s : List UInt8) (w : World) (h : w.cell? ⟨g, 0, none⟩ = some (S s)) (hs : s.length ≤ 1100000) :
    Calls Tryz.prog 66 #[.slice (some ⟨g, 0, none⟩) 1 c] w fun e w' => e = .returned (S (shaF s)) ∧ Below w.heap.size w w' := by
  have CF := first_walk w
  have HH := Lib.hid h
  clear h
  go_enter Tryz.func66, Tryz.ntmps66
  go_wp2_with fail
  refine CF.mono ?_
  rintro e w1 ⟨rfl, hb1⟩
  clear CF
  go_upto_region 2 with fail
  generalize hw2 : World.alloc _ _ = w2
  have hz2 : w2.heap[w1.heap.size]? = some (.cells (feedC h0Sha 0 (List.replicate 64 0)).toArray 147 (0, 0)) := by
    rw [← hw2, heap_alloc_new]
    exact congrArg (fun cs => some (Obj.cells cs 147 (0, 0))) (by as_aux_lemma => kernel_rfl)
  have hb2 : Below w1.heap.size w1 w2 := by
    rw [← hw2]
    exact (Below.refl _ _).alloc (Nat.le_refl _) _
  clear hw2
  generalize Value.agg (Array.foldl _ _ _ _ _) = v8
  generalize Value.agg (List.foldl _ _ _) = v7
  have hf : IsFeed w2 w1.heap.size [] := ⟨List.replicate 64 0, by simp, by simp, hz2⟩
  have hB2 := below_chain hb1 hb2 hb1.size
  have HG := Lib.hid hb1.size
  have HF := Lib.hid hf
  have HB2 := Lib.hid hB2
  clear hf hz2 hb1 hb2 hB2
  go_wp2
  go_loopw [12] (fun i w' => ∃ j : Nat, j ≤ 1 ∧ i = .int .i64 j ∧ (j = 0 → IsFeed w' w1.heap.size []) ∧ (j = 1 → IsFeed w' w1.heap.size s) ∧ Below w.heap.size w w') (fun i _ => 1 - (intOf i).toNat)
  case atStart => exact ⟨0, Nat.zero_le _, rfl, fun _ => HF.out, fun h => by omega, HB2.out⟩
  case round =>
    obtain ⟨j, hj, rfl, h0, h1, hB⟩ := hrel
    by_cases hj0 : j = 0
    · subst hj0
      have c0 := cell_below hB HH.out
      have CF := feed_walk w1.heap.size [] s wr (h0 rfl) (by simp; omega)
      have HB := Lib.hid hB
      clear h0 h1 hB hj
      rw [show ((0 : Nat) : Int) = 0 from rfl]
      go_wp2_with fail
      refine CF.mono ?_
      rintro e w4 ⟨rfl, hf4, hg4⟩
      have HF4 := Lib.hid hf4
      have HB4 := Lib.hid (HB.out.trans (gro_below hg4 HG.out HB.out.size))
      clear CF hf4 hg4 c0
      go_wp2
      go_roundw
      case rel => exact ⟨1, Nat.le_refl _, rfl, fun h => by omega, fun _ => HF4.out, HB4.out⟩
      case measure => simp [intOf]
    · obtain rfl : j = 1 := by omega
      have CS := psum_walk w1.heap.size s wr (h1 rfl) hs
      have HB := Lib.hid hB
      clear h0 h1 hB hj hj0
      rw [show ((1 : Nat) : Int) = 1 from rfl]
      go_wp2_with fail
      refine CS.mono ?_
      rintro e w4 ⟨rfl, hg4⟩
      have HB4 := Lib.hid (HB.out.trans (gro_below hg4 HG.out HB.out.size))
      clear CS hg4
      go_wp2
      go_ret
      exact ⟨rfl, HB4.out⟩

set_option maxHeartbeats 8000000 in
set_option maxRecDepth 100000 in
/-- the program's sum of a text. -/
theorem psha_walk (s : List UInt8) (w : World) (hs : s.length ≤ 1100000) :
    Calls Tryz.prog 39 #[S s] w fun e w' => e = .returned (S (shaF s)) ∧ Below w.heap.size w w' := by
  obtain ⟨w1, hw1, hb1, hc⟩ : ∃ w1, w1 = w.alloc (.cells #[S s] 9) ∧ Below w.heap.size w w1 ∧ w1.cell? ⟨w.heap.size, 0, none⟩ = some (S s) :=
    ⟨_, rfl, (Below.refl _ _).alloc (Nat.le_refl _) _, cell_new _ _ _ _ rfl⟩
  have CJ := pjoin_walk w.heap.size 1 s w1 hc hs
  go_enter Tryz.func39, Tryz.ntmps39
  go_wp2_with fail
  rw [← hw1]
  clear hw1 hc
  refine CJ.mono ?_
  rintro e w2 ⟨rfl, hb2⟩
  have HB2 := Lib.hid (below_chain hb1 hb2 hb1.size)
  clear hb2 CJ
  go_wp2
  go_ret
  exact ⟨rfl, HB2.out⟩
end Go.Proofs.YtkejdbidomlonaaGreatDoor
