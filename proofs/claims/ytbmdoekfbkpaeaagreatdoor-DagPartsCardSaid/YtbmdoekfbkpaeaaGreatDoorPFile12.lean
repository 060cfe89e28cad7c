/- The program's objects of a file. -/
import Derived.Test.YtbmdoekfbkpaeaaGreatDoorJPPut12
import Derived.Test.YtbmdoekfbkpaeaaGreatDoorPCdc
import Derived.Test.YtbmdoekfbkpaeaaGreatDoorRFile12
namespace Go.Proofs.YtbmdoekfbkpaeaaGreatDoor
open Go.RowKit

/-- The builder, in block b. -/
abbrev BldP (w : World) (b mb : Nat) (x y z : Nat) (ia : Option Addr) (il ic : Nat) : Prop := w.heap[b]? = some (.cells #[.map (some mb), .int .i64 (x : Nat), .int .i64 (y : Nat), .int .i64 (z : Nat), .slice ia il ic] 55 (0, 0))
theorem bld_cells {w : World} {b mb x y z il ic : Nat} {ia : Option Addr} (h : BldP w b mb x y z ia il ic) : w.cell? ⟨b, 0, none⟩ = some (.map (some mb)) ∧ w.cell? ⟨b, 1, none⟩ = some (.int .i64 (x : Nat)) ∧ w.cell? ⟨b, 2, none⟩ = some (.int .i64 (y : Nat)) ∧ w.cell? ⟨b, 3, none⟩ = some (.int .i64 (z : Nat)) ∧ w.cell? ⟨b, 4, none⟩ = some (.slice ia il ic) :=
  ⟨heap_cell h (j := 0) rfl, heap_cell h (j := 1) rfl, heap_cell h (j := 2) rfl, heap_cell h (j := 3) rfl, heap_cell h (j := 4) rfl⟩
theorem smap_not {w : World} {mb g : Nat} {o : List Snp} {cs : Array Value} {e : Nat} (h : SMap w mb o) (hg : w.heap[g]? = some (.cells cs e (0, 0))) : g ≠ mb := by
  rintro rfl
  obtain ⟨E, h, _⟩ := h
  rw [h] at hg; cases hg
/-- Between two rounds of file. -/
def PFileI (w w2 : World) (mb : Nat) (tv : Value) (o : List Snp) (ps : List (List UInt8)) (i : Value) (wr : World) : Prop :=
  ∃ (k : Nat) (pa : Option Addr) (pc : Nat), k ≤ ps.length ∧ i = .int .i64 k ∧ Hid (SMap wr mb ((ps.take k).foldl (fun o s => putN o (pieceN s)) o)) ∧
    wr.heap[w.heap.size]? = some (.cells #[.int .i64 2, .string ⟨#[]⟩, .slice pa k pc, .slice none 0 0] 40 (0, 0)) ∧ Hid (wr.ownsRow (w.heap.size + 1) 65 2 (.slice pa k pc) k (((ps.take k).map partN).flatMap prtC)) ∧ Hid (wr.ownsRow (w2.heap.size + 1) 9 1 tv ps.length (ps.map S)) ∧ Hid (Gro mb w wr)
theorem pfile_round {w w2 w5 w8 : World} {mb k g' cap' pc : Nat} {tv : Value} {pa : Option Addr} {o o4 : List Snp} {ps : List (List UInt8)} {new : List Value} {tmp : Obj}
    (hk : k < ps.length) (hmb : mb < w.heap.size) (hs2 : w.heap.size ≤ w2.heap.size) (hnew : ((ps.take (k + 1)).map partN).flatMap prtC = ((ps.take k).map partN).flatMap prtC ++ new) (ho : (ps.take (k + 1)).foldl (fun o s => putN o (pieceN s)) o = o4) (hm : SMap w5 mb o4)
    (hnb : w5.heap[w.heap.size]? = some (.cells #[.int .i64 2, .string ⟨#[]⟩, .slice pa k pc, .slice none 0 0] 40 (0, 0)))
    (her : w5.ownsRow (w.heap.size + 1) 65 2 (.slice pa k pc) k (((ps.take k).map partN).flatMap prtC)) (htr : w5.ownsRow (w2.heap.size + 1) 9 1 tv ps.length (ps.map S)) (hB : Gro mb w w5)
    (hown' : w8.ownsRow (w.heap.size + 1) 65 2 (.slice (some ⟨g', 0, none⟩) (k + 1) cap') (k + 1) (((ps.take k).map partN).flatMap prtC ++ new)) (hgrow : (w5.alloc tmp).grownBy w8 (Value.slice pa k pc).ownBlock) :
    Hid (w8.heap[w.heap.size]? = some (.cells #[.int .i64 2, .string ⟨#[]⟩, .slice pa k pc, .slice none 0 0] 40 (0, 0))) ∧
      Hid (PFileI w w2 mb tv o ps (.int .i64 ((k : Int) + 1)) (w8.setCell ⟨w.heap.size, 2, none⟩ (.slice (some ⟨g', 0, none⟩) (k + 1) cap'))) := by
  have hne : ∀ j, (Value.slice pa k pc).ownBlock = some j → w.heap.size + 1 ≤ j := fun j hj => (her.lt j hj).1
  have hold : ∀ j, j < w5.heap.size → some j ≠ (Value.slice pa k pc).ownBlock → w8.heap[j]? = w5.heap[j]? := fun j hj hn => (hgrow.block j (by rw [World.size_alloc]; omega) hn).trans (Below.heap_alloc _ _ _ hj)
  have hnb2 := (hold _ (heap_lt hnb) (fun e => by have := hne _ e.symm; omega)).trans hnb
  have hm2 : SMap w8 mb o4 := hm.block (hold _ hm.lt (fun e => by have := hne _ e.symm; omega))
  have ht2 : w8.ownsRow (w2.heap.size + 1) 9 1 tv ps.length (ps.map S) := by
    rcases her.2 with ⟨h, _⟩ | ⟨gg, cap, cur, h, _, hgg, _⟩
    · exact own_block2 htr fun j hj => hold j (htr.lt j hj).2 (by rw [h]; simp [Value.ownBlock])
    · exact own_type htr hgg (by decide) (fun j hj hlt => hold j hlt (by rw [h]; simp [Value.ownBlock]; exact hj))
  have hB2 : Gro mb w w8 := by
    have h1 : w.grownBy (w5.alloc tmp) (some mb) := World.grownBy.trans hB (World.grownBy_alloc w5 tmp (some mb))
    refine ⟨hgrow.os.trans h1.os, hgrow.tape.trans h1.tape, hgrow.output.trans h1.output, Nat.le_trans h1.size hgrow.size, fun j hj hn => (hgrow.block j (by have := h1.size; omega) (fun e => by have := hne _ e.symm; omega)).trans (h1.block j hj hn)⟩
  have hset : ∀ j, j ≠ w.heap.size → (w8.setCell ⟨w.heap.size, 2, none⟩ (.slice (some ⟨g', 0, none⟩) (k + 1) cap')).heap[j]? = w8.heap[j]? := fun j hj => Below.heap_setCell _ _ _ _ hj
  refine ⟨Lib.hid hnb2, Lib.hid ⟨k + 1, some ⟨g', 0, none⟩, cap', by omega, by go_num, ?_, heap_set_cell (o := 2) hnb2 _, ?_, ?_, ?_⟩⟩
  · rw [ho]; exact Lib.hid (hm2.block (hset mb (by omega)))
  · rw [hnew]; exact Lib.hid (own_block2 hown' fun j hj => hset j (by have := (hown'.lt j hj).1; omega))
  · exact Lib.hid (own_block2 ht2 fun j hj => hset j (by have := (ht2.lt j hj).1; omega))
  · exact Lib.hid ⟨hB2.os, hB2.tape, hB2.output, by rw [size_setCell]; exact hB2.size, fun j hj hn => (hset j (by omega)).trans (hB2.block j hj hn)⟩

set_option maxHeartbeats 8000000 in
set_option maxRecDepth 100000 in
theorem pfile12_walk (b mb x k y z il ic : Nat) (ia : Option Addr) (o : List Snp) (data : List UInt8) (w : World) (hf : FitC x k z) (hpk : 2 ^ k = y) (hT : TzT w) (hb : BldP w b mb x y z ia il ic) (hm : SMap w mb o) (hd : data.length ≤ 32768) (hps : (piecesC x k z data).length ≤ 1024) :
    Calls Tryz.prog 44 #[.pointer (some ⟨b, 0, none⟩), S data] w fun e w' => e = .returned (S (keyN (fileN (piecesC x k z data)))) ∧ SMap w' mb (fileO o (piecesC x k z data)) ∧ Gro mb w w' := by
  obtain ⟨i0, hi, hz0, hz1, hz2⟩ := info_parts infoPrt
  have HMB := Lib.hid hm.lt
  have HBB := Lib.hid (heap_lt hb)
  have HNE := Lib.hid (smap_not hm hb)
  obtain ⟨w2, hw2, hb2, hn2, hs2⟩ : ∃ w2, w2 = w.alloc (.cells #[.int .i64 2, .string ⟨#[]⟩, .slice none 0 0, .slice none 0 0] 40) ∧ Below w.heap.size w w2 ∧ w2.heap[w.heap.size]? = some (.cells #[.int .i64 2, .string ⟨#[]⟩, .slice none 0 0, .slice none 0 0] 40 (0, 0)) ∧ w2.heap.size = w.heap.size + 1 :=
    ⟨_, rfl, (Below.refl _ _).alloc (Nat.le_refl _) _, heap_alloc_new _ _, by simp⟩
  have hbl2 : BldP w2 b mb x y z ia il ic := (hb2.block _ (heap_lt hb)).trans hb
  have HM2 := Lib.hid (hm.kept hb2)
  obtain ⟨c0, c1, c2, c3, c4⟩ := bld_cells hbl2
  have CP := ppieces_walk x k y z data w2 hf hpk (by omega) (hT.below hb2)
  have HEACH := Lib.hid (piecesC_each (s := data) hf)
  have HFLAT := Lib.hid (piecesC_flat (s := data) hf)
  have HPS := Lib.hid hps
  obtain ⟨ps, hpse⟩ : ∃ ps, piecesC x k z data = ps := ⟨_, rfl⟩
  rw [hpse] at CP HEACH HFLAT HPS
  rw [hpse]
  have HB2 := Lib.hid hb2
  have HN2 := Lib.hid hn2
  have HBL2 := Lib.hid hbl2
  clear hpse hps hn2 hf hpk hT hb hm hbl2
  go_enter Tryz.func44, Tryz.ntmps44
  go_upto_region 2 with fail
  rw [← hw2]
  clear hw2
  go_wp2_with fail
  refine CP.mono ?_
  rintro e w3 ⟨tv, rfl, htr, hb3⟩
  obtain ⟨ta, tc, rfl⟩ : ∃ ta tc, tv = .slice ta ps.length tc := by
    rcases htr.2 with ⟨h, hn⟩ | ⟨g, cap, _, h, _⟩
    · exact ⟨none, 0, by rw [h, hn]⟩
    · exact ⟨_, _, h⟩
  have HTR := Lib.hid htr
  have HG3 := Lib.hid (gro_of (g := mb) (hb2.trans (hb3.mono hb2.size)))
  have HN3 := Lib.hid ((hb3.block _ (heap_lt HN2.out)).trans HN2.out)
  have HM3 := Lib.hid (HM2.out.kept hb3)
  have HBL := Lib.hid (fun (W : World) (hg : Gro mb w W) => show BldP W b mb x y z ia il ic from (hg.block b HBB.out (fun e => HNE.out (Option.some.inj e))).trans (((hb2.block b HBB.out).symm).trans HBL2.out))
  have HS2 := Lib.hid hs2
  have hpl := HPS.out
  clear CP c0 c1 c2 c3 c4 hb2 hb3 htr HN2 hs2
  go_wp2
  go_loopw [16, 7] (fun i _ wr => PFileI w w2 mb (.slice ta ps.length tc) o ps i wr) (fun i _ _ => ps.length - (intOf i).toNat)
  case atStart => exact ⟨0, none, 0, Nat.zero_le _, rfl, HM3, HN3.out, Lib.hid (World.ownsRow_nil _ _ _ _), HTR, HG3⟩
  case round =>
    obtain ⟨k, pa, pc, hk, rfl, HMW, hnb, HPR, HTW, HG⟩ := hrel
    clear HTR HN3 HM3 HG3 HM2 HB2
    by_cases h1 : k < ps.length
    · have h1' : (k : Int) < (ps.length : Int) := by omega
      obtain ⟨_, _, hv, _, _, hx⟩ := StrRow.of_owns HTW.out
      cases hv
      rcases hx with hx | ⟨g, o2, rfl, hx⟩
      · exfalso; rw [hx] at h1; simp at h1
      have hc1 := str_cell hx h1
      obtain ⟨oo, hoo⟩ : ∃ oo, (ps.take k).foldl (fun o s => putN o (pieceN s)) o = oo := ⟨_, rfl⟩
      rw [hoo] at HMW
      have HFT := Lib.hid (show (ps.take (k + 1)).foldl (fun o s => putN o (pieceN s)) o = putN oo (pieceN ps[k]) by rw [fold_take _ _ _ h1, hoo])
      have HPT := Lib.hid (show ((ps.take (k + 1)).map partN).flatMap prtC = ((ps.take k).map partN).flatMap prtC ++ [S (keyN (pieceN ps[k])), .int .i64 (ps[k].length : Nat)] by rw [List.take_succ_eq_append_getElem h1, List.map_append, List.flatMap_append]; rfl)
      obtain ⟨hsl1, hsl⟩ := HEACH.out ps[k] (by simp)
      generalize ps[k] = s at *
      clear hx hoo
      go_upto_region 5 with fail
      obtain ⟨w5, hw5, HM5, hb5, HPR5, HTR5, HG5, hbl5⟩ : ∃ w5 : World, w5 = { wr with drawn := wr.drawn + 1 } ∧ Hid (SMap w5 mb oo) ∧ w5.heap[w.heap.size]? = some (.cells #[.int .i64 2, .string ⟨#[]⟩, .slice pa k pc, .slice none 0 0] 40 (0, 0)) ∧ Hid (w5.ownsRow (w.heap.size + 1) 65 2 (.slice pa k pc) k (((ps.take k).map partN).flatMap prtC)) ∧ Hid (w5.ownsRow (w2.heap.size + 1) 9 1 (.slice (some ⟨g, o2, none⟩) ps.length tc) ps.length (ps.map S)) ∧ Hid (Gro mb w w5) ∧ BldP w5 b mb x y z ia il ic := by
        have hdr : Below wr.heap.size wr { wr with drawn := wr.drawn + 1 } := ⟨rfl, rfl, rfl, Nat.le_refl _, fun _ _ => rfl⟩
        exact ⟨_, rfl, Lib.hid (HMW.out.kept hdr), hnb, Lib.hid (own_on HPR.out hdr), Lib.hid (own_on HTW.out hdr), Lib.hid (gro_chain HG.out hdr), HBL.out _ (gro_chain HG.out hdr)⟩
      have CQ : Calls Tryz.prog 45 #[.map (some mb), .agg #[.int .i64 1, S s, .slice none 0 0, .slice none 0 0]] w5 _ := pput12_walk mb (.slice none 0 0) (.slice none 0 0) oo (pieceN s) w5 HM5.out ⟨Row.nil _ _, Row.nil _ _⟩ (fit_piece hsl1 hsl) (by simp; omega) (by simp) (by simp) (by simp)
      generalize putN oo (pieceN s) = o4 at *
      generalize keyN (pieceN s) = kk at *
      have HS5 := Lib.hid (heap_lt hb5)
      clear hc1 hnb
      (refine wp_region_held (S := fun w' => BldP w' b mb x y z ia il ic) (by kernel_rfl) ?_)
      rw [← hw5]
      clear hw5
      obtain ⟨c0, c1, c2, c3, c4⟩ := bld_cells hbl5
      (refine wpAnyH_take (i := 0) (v := ?_) rfl (by kernel_rfl) (by kernel_rfl) (by kernel_rfl) (fun _ _ _ h => h) (Or.inl ⟨by rfl, ?_⟩) (by exact hbl5) ?_; rotate_left; (intro w9 hS9; skip; go_simp; try with_reducible rfl))
      (refine wpAnyH_take (i := 2) (v := ?_) rfl (by kernel_rfl) (by kernel_rfl) (by kernel_rfl) (fun _ _ _ h => h) (Or.inl ⟨by rfl, ?_⟩) (by exact hbl5) ?_; rotate_left; (intro w9 hS9; skip; go_simp; try with_reducible rfl))
      (refine wpAnyH_take (i := 3) (v := ?_) rfl (by kernel_rfl) (by kernel_rfl) (by kernel_rfl) (fun _ _ _ h => h) (Or.inl ⟨by rfl, ?_⟩) (by exact hbl5) ?_; rotate_left; (intro w9 hS9; skip; go_simp; try with_reducible rfl))
      (refine wpAnyH_take (i := 4) (v := ?_) rfl (by kernel_rfl) (by kernel_rfl) (by kernel_rfl) (fun _ _ _ h => h) (Or.inl ⟨by rfl, ?_⟩) (by exact hbl5) ?_; rotate_left; (intro w9 hS9; skip; go_simp; try with_reducible rfl))
      (refine wpAnyH_take (i := 5) (v := ?_) rfl (by kernel_rfl) (by kernel_rfl) (by kernel_rfl) (fun _ _ _ h => h) (Or.inl ⟨by rfl, ?_⟩) (by exact hbl5) ?_; rotate_left; (intro w9 hS9; (obtain ⟨c0, -⟩ := bld_cells hS9); go_simp; try with_reducible rfl))
      (refine wpAnyH_take (i := 6) (v := ?_) rfl (by kernel_rfl) (by kernel_rfl) (by kernel_rfl) (fun _ _ _ h => h) (Or.inl ⟨by rfl, ?_⟩) (by exact hbl5) ?_; rotate_left; (intro w9 hS9; skip; go_simp; try with_reducible rfl))
      (refine wpAnyH_take (i := 7) (v := ?_) rfl (by kernel_rfl) (by kernel_rfl) (by kernel_rfl) (fun _ _ _ h => h) (Or.inl ⟨by rfl, ?_⟩) (by exact hbl5) ?_; rotate_left; (intro w9 hS9; skip; go_simp; try with_reducible rfl))
      (refine wpAnyH_take (i := 9) (v := ?_) rfl (by kernel_rfl) (by kernel_rfl) (by kernel_rfl) (fun _ _ _ h => h) (Or.inl ⟨by rfl, ?_⟩) (by exact hbl5) ?_; rotate_left; (intro w9 hS9; skip; go_simp; try with_reducible rfl))
      (refine wpAnyH_take (i := 10) (v := ?_) rfl (by kernel_rfl) (by kernel_rfl) (by kernel_rfl) (fun _ _ _ h => h) (Or.inl ⟨by rfl, ?_⟩) (by exact hbl5) ?_; rotate_left; (intro w9 hS9; skip; go_simp; try with_reducible rfl))
      obtain ⟨⟨z0, z1, z2, z3⟩, ⟨y0, y1, y2, y3⟩, ⟨x0, x1, x2, x3⟩⟩ := box4 hb5
      refine wpAnyH_two (i := 1) (j := 8) (by kernel_rfl) rfl rfl (fun K hK => ?_) (fun K hK => ?_)
      · (go_simp; refine hK _ _ (hbl5) ?_; clear hK K)
        clear z0 z1 z2 z3 y0 y1 y2 y3 x0 x1 x2 x3
        refine wpAnyH_one (i := 8) (by kernel_rfl) rfl (fun K hK => ?_)
        go_simp
        refine (CQ).mono ?_
        rintro e w6 ⟨rfl, hm6, hg6⟩
        have HG6 := Lib.hid (World.grownBy.trans HG5.out hg6)
        have hbl6 := HBL.out w6 HG6.out
        have hb6 := (hg6.block _ (heap_lt hb5) (fun e => by have := Option.some.inj e; have := HMB.out; omega)).trans hb5
        have HM6 := Lib.hid hm6
        have HPR6 := Lib.hid (HPR5.out.kept hg6 (by rcases HPR5.out.2 with ⟨h, _⟩ | ⟨gg, cap, cur, h, hge, _⟩ <;> rw [h]; exact .inl rfl; refine .inr ?_; simp [Value.ownBlock]; have := HMB.out; omega))
        have HTR6 := Lib.hid (HTR5.out.kept hg6 (by refine .inr ?_; have h7 := (HTR5.out.lt g rfl).1; simp [Value.ownBlock]; have := HMB.out; have := HS2.out; omega))
        clear CQ hm6 hg6
        obtain ⟨⟨z0, z1, z2, z3⟩, ⟨y0, y1, y2, y3⟩, ⟨x0, x1, x2, x3⟩⟩ := box4 hb6
        obtain ⟨⟨q0, q1, q2, q3⟩, -, -⟩ := box4 ((Below.heap_alloc w6 (.cells #[S kk, .int .i64 s.length] 65) _ (heap_lt hb6)).trans hb6)
        have hbl7 : BldP (w6.alloc (.cells #[S kk, .int .i64 s.length] 65)) b mb x y z ia il ic := (Below.heap_alloc _ _ _ (heap_lt hbl6)).trans hbl6
        have HOA := Lib.hid (HPR6.out.alloc (.cells #[S kk, .int .i64 s.length] 65))
        have HNC := Lib.hid (new_cells w6 (S kk) (.int .i64 s.length) 65)
        refine hK _ _ hbl6 ?_
        clear hK K
        (refine wpAnyH_take (i := 11) (v := ?_) rfl (by kernel_rfl) (by kernel_rfl) (by kernel_rfl) (fun _ _ _ h => h) (Or.inl ⟨by rfl, ?_⟩) (by exact hbl6) ?_; rotate_left; (intro w9 hS9; skip; go_simp; try with_reducible rfl))
        refine wpAnyH_one (i := 12) (by kernel_rfl) rfl (fun K hK => ?_)
        (go_simp; refine hK _ _ (hbl7) ?_; clear hK K)
        refine wpAnyH_one (i := 13) (by kernel_rfl) rfl (fun K hK => ?_)
        rw [if_pos (by rfl)]
        refine wp_append_own _ (.tmp 21) (.tmp 32) 37 rfl (w.heap.size + 1) 65 i0 (.agg #[.string ⟨#[]⟩, .int .i64 0]) 2 24 Tryz.underlying37 hi hz0 hz1 hz2 rfl (by decide) (.slice pa k pc) k (((ps.take k).map partN).flatMap prtC) rfl HOA.out ⟨w6.heap.size, 0, none⟩ 1 1 [S kk, .int .i64 s.length] rfl rfl HNC.out (by intro u hu; simp at hu; rcases hu with rfl | rfl <;> rfl) (by unfold maxLen; omega) (by omega) (by simp; have := heap_lt hb6; omega) ?_
        intro v' w8 hown' hgrow _
        obtain ⟨g', cap', rfl⟩ := ownsRow_succ hown'
        obtain ⟨HBX, HEND⟩ := pfile_round h1 HMB.out (by have := HS2.out; omega) HPT.out HFT.out HM6.out hb6 HPR6.out HTR6.out HG6.out hown' hgrow
        have hbl8 : BldP w8 b mb x y z ia il ic := (hgrow.block b (heap_lt hbl7) (fun e => by have := (HPR6.out.lt b e.symm).1; have := HBB.out; omega)).trans hbl7
        have hbl9 : BldP (w8.setCell ⟨w.heap.size, 2, none⟩ (.slice (some ⟨g', 0, none⟩) (k + 1) cap')) b mb x y z ia il ic := (Below.heap_setCell _ _ _ _ (show b ≠ w.heap.size by have := HBB.out; omega)).trans hbl8
        clear z0 z1 z2 z3 y0 y1 y2 y3 x0 x1 x2 x3 q0 q1 q2 q3
        obtain ⟨⟨z0, z1, z2, z3⟩, ⟨y0, y1, y2, y3⟩, ⟨x0, x1, x2, x3⟩⟩ := box4 HBX.out
        clear hown' hgrow
        refine hK _ _ hbl8 ?_
        clear hK K
        (refine wpAnyH_take (i := 14) (v := ?_) rfl (by kernel_rfl) (by kernel_rfl) (by kernel_rfl) (fun _ _ _ h => h) (Or.inl ⟨by rfl, ?_⟩) (by exact hbl8) ?_; rotate_left; (intro w9 hS9; skip; go_simp; try with_reducible rfl))
        refine wpAnyH_one (i := 15) (by kernel_rfl) rfl (fun K hK => ?_)
        (go_simp; refine hK _ _ hbl9 ?_; clear hK K)
        (refine wpAnyH_done (by kernel_rfl) ?_ _)
        go_wp2
        go_roundw
        case rel => exact HEND.out
        case measure => simp [intOf]; omega
      · clear z0 z1 z2 z3 y0 y1 y2 y3 x0 x1 x2 x3
        go_simp
        refine (CQ).mono ?_
        rintro e w6 ⟨rfl, hm6, hg6⟩
        have HG6 := Lib.hid (World.grownBy.trans HG5.out hg6)
        have hbl6 := HBL.out w6 HG6.out
        have hb6 := (hg6.block _ (heap_lt hb5) (fun e => by have := Option.some.inj e; have := HMB.out; omega)).trans hb5
        have HM6 := Lib.hid hm6
        have HPR6 := Lib.hid (HPR5.out.kept hg6 (by rcases HPR5.out.2 with ⟨h, _⟩ | ⟨gg, cap, cur, h, hge, _⟩ <;> rw [h]; exact .inl rfl; refine .inr ?_; simp [Value.ownBlock]; have := HMB.out; omega))
        have HTR6 := Lib.hid (HTR5.out.kept hg6 (by refine .inr ?_; have h7 := (HTR5.out.lt g rfl).1; simp [Value.ownBlock]; have := HMB.out; have := HS2.out; omega))
        clear CQ hm6 hg6
        obtain ⟨⟨z0, z1, z2, z3⟩, ⟨y0, y1, y2, y3⟩, ⟨x0, x1, x2, x3⟩⟩ := box4 hb6
        obtain ⟨⟨q0, q1, q2, q3⟩, -, -⟩ := box4 ((Below.heap_alloc w6 (.cells #[S kk, .int .i64 s.length] 65) _ (heap_lt hb6)).trans hb6)
        have hbl7 : BldP (w6.alloc (.cells #[S kk, .int .i64 s.length] 65)) b mb x y z ia il ic := (Below.heap_alloc _ _ _ (heap_lt hbl6)).trans hbl6
        have HOA := Lib.hid (HPR6.out.alloc (.cells #[S kk, .int .i64 s.length] 65))
        have HNC := Lib.hid (new_cells w6 (S kk) (.int .i64 s.length) 65)
        refine hK _ _ hbl6 ?_
        clear hK K
        (refine wpAnyH_take (i := 11) (v := ?_) rfl (by kernel_rfl) (by kernel_rfl) (by kernel_rfl) (fun _ _ _ h => h) (Or.inl ⟨by rfl, ?_⟩) (by exact hbl6) ?_; rotate_left; (intro w9 hS9; skip; go_simp; try with_reducible rfl))
        refine wpAnyH_two (i := 1) (j := 12) (by kernel_rfl) rfl rfl (fun K hK => ?_) (fun K hK => ?_)
        · (go_simp; refine hK _ _ (hbl6) ?_; clear hK K)
          refine wpAnyH_one (i := 12) (by kernel_rfl) rfl (fun K hK => ?_)
          (go_simp; refine hK _ _ (hbl7) ?_; clear hK K)
          refine wpAnyH_one (i := 13) (by kernel_rfl) rfl (fun K hK => ?_)
          rw [if_pos (by rfl)]
          refine wp_append_own _ (.tmp 21) (.tmp 32) 37 rfl (w.heap.size + 1) 65 i0 (.agg #[.string ⟨#[]⟩, .int .i64 0]) 2 24 Tryz.underlying37 hi hz0 hz1 hz2 rfl (by decide) (.slice pa k pc) k (((ps.take k).map partN).flatMap prtC) rfl HOA.out ⟨w6.heap.size, 0, none⟩ 1 1 [S kk, .int .i64 s.length] rfl rfl HNC.out (by intro u hu; simp at hu; rcases hu with rfl | rfl <;> rfl) (by unfold maxLen; omega) (by omega) (by simp; have := heap_lt hb6; omega) ?_
          intro v' w8 hown' hgrow _
          obtain ⟨g', cap', rfl⟩ := ownsRow_succ hown'
          obtain ⟨HBX, HEND⟩ := pfile_round h1 HMB.out (by have := HS2.out; omega) HPT.out HFT.out HM6.out hb6 HPR6.out HTR6.out HG6.out hown' hgrow
          have hbl8 : BldP w8 b mb x y z ia il ic := (hgrow.block b (heap_lt hbl7) (fun e => by have := (HPR6.out.lt b e.symm).1; have := HBB.out; omega)).trans hbl7
          have hbl9 : BldP (w8.setCell ⟨w.heap.size, 2, none⟩ (.slice (some ⟨g', 0, none⟩) (k + 1) cap')) b mb x y z ia il ic := (Below.heap_setCell _ _ _ _ (show b ≠ w.heap.size by have := HBB.out; omega)).trans hbl8
          clear z0 z1 z2 z3 y0 y1 y2 y3 x0 x1 x2 x3 q0 q1 q2 q3
          obtain ⟨⟨z0, z1, z2, z3⟩, ⟨y0, y1, y2, y3⟩, ⟨x0, x1, x2, x3⟩⟩ := box4 HBX.out
          clear hown' hgrow
          refine hK _ _ hbl8 ?_
          clear hK K
          (refine wpAnyH_take (i := 14) (v := ?_) rfl (by kernel_rfl) (by kernel_rfl) (by kernel_rfl) (fun _ _ _ h => h) (Or.inl ⟨by rfl, ?_⟩) (by exact hbl8) ?_; rotate_left; (intro w9 hS9; skip; go_simp; try with_reducible rfl))
          refine wpAnyH_one (i := 15) (by kernel_rfl) rfl (fun K hK => ?_)
          (go_simp; refine hK _ _ hbl9 ?_; clear hK K)
          (refine wpAnyH_done (by kernel_rfl) ?_ _)
          go_wp2
          go_roundw
          case rel => exact HEND.out
          case measure => simp [intOf]; omega
        · (go_simp; refine hK _ _ (hbl7) ?_; clear hK K)
          refine wpAnyH_one (i := 1) (by kernel_rfl) rfl (fun K hK => ?_)
          (go_simp; refine hK _ _ (hbl7) ?_; clear hK K)
          refine wpAnyH_one (i := 13) (by kernel_rfl) rfl (fun K hK => ?_)
          rw [if_pos (by rfl)]
          refine wp_append_own _ (.tmp 21) (.tmp 32) 37 rfl (w.heap.size + 1) 65 i0 (.agg #[.string ⟨#[]⟩, .int .i64 0]) 2 24 Tryz.underlying37 hi hz0 hz1 hz2 rfl (by decide) (.slice pa k pc) k (((ps.take k).map partN).flatMap prtC) rfl HOA.out ⟨w6.heap.size, 0, none⟩ 1 1 [S kk, .int .i64 s.length] rfl rfl HNC.out (by intro u hu; simp at hu; rcases hu with rfl | rfl <;> rfl) (by unfold maxLen; omega) (by omega) (by simp; have := heap_lt hb6; omega) ?_
          intro v' w8 hown' hgrow _
          obtain ⟨g', cap', rfl⟩ := ownsRow_succ hown'
          obtain ⟨HBX, HEND⟩ := pfile_round h1 HMB.out (by have := HS2.out; omega) HPT.out HFT.out HM6.out hb6 HPR6.out HTR6.out HG6.out hown' hgrow
          have hbl8 : BldP w8 b mb x y z ia il ic := (hgrow.block b (heap_lt hbl7) (fun e => by have := (HPR6.out.lt b e.symm).1; have := HBB.out; omega)).trans hbl7
          have hbl9 : BldP (w8.setCell ⟨w.heap.size, 2, none⟩ (.slice (some ⟨g', 0, none⟩) (k + 1) cap')) b mb x y z ia il ic := (Below.heap_setCell _ _ _ _ (show b ≠ w.heap.size by have := HBB.out; omega)).trans hbl8
          clear z0 z1 z2 z3 y0 y1 y2 y3 x0 x1 x2 x3 q0 q1 q2 q3
          obtain ⟨⟨z0, z1, z2, z3⟩, ⟨y0, y1, y2, y3⟩, ⟨x0, x1, x2, x3⟩⟩ := box4 HBX.out
          clear hown' hgrow
          refine hK _ _ hbl8 ?_
          clear hK K
          (refine wpAnyH_take (i := 14) (v := ?_) rfl (by kernel_rfl) (by kernel_rfl) (by kernel_rfl) (fun _ _ _ h => h) (Or.inl ⟨by rfl, ?_⟩) (by exact hbl8) ?_; rotate_left; (intro w9 hS9; skip; go_simp; try with_reducible rfl))
          refine wpAnyH_one (i := 15) (by kernel_rfl) rfl (fun K hK => ?_)
          (go_simp; refine hK _ _ hbl9 ?_; clear hK K)
          (refine wpAnyH_done (by kernel_rfl) ?_ _)
          go_wp2
          go_roundw
          case rel => exact HEND.out
          case measure => simp [intOf]; omega
    · have h1' : ¬ (k : Int) < (ps.length : Int) := by omega
      obtain rfl : k = ps.length := by omega
      rw [List.take_of_length_le (Nat.le_refl _)] at HMW HPR
      have hnrow : NodRow wr (fileN ps) (.slice pa ps.length pc) (.slice none 0 0) := by
        refine ⟨Row.of_ownsK (f := prtC) (K := 2) (base := w.heap.size + 1) (e := 65) (fun _ => rfl) ?_, Row.nil _ _⟩
        show wr.ownsRow _ _ _ _ (ps.map partN).length _
        rw [List.length_map]; exact HPR.out
      have hdl : ps.flatten.length ≤ 32768 := by rw [HFLAT.out]; exact hd
      have hfn : FitN (fileN ps) := fit_file HEACH.out hpl hdl
      have HEQ := Lib.hid (show putN (ps.foldl (fun o s => putN o (pieceN s)) o) (fileN ps) = fileO o ps from rfl)
      generalize ps.foldl (fun o s => putN o (pieceN s)) o = oo at *
      go_upto_region 7 with fail
      obtain ⟨w5, hw5, HM5, hb5, HNR5, HG5, hbl5⟩ : ∃ w5 : World, w5 = { wr with drawn := wr.drawn + 1 } ∧ Hid (SMap w5 mb oo) ∧ w5.heap[w.heap.size]? = some (.cells #[.int .i64 2, .string ⟨#[]⟩, .slice pa ps.length pc, .slice none 0 0] 40 (0, 0)) ∧ Hid (NodRow w5 (fileN ps) (.slice pa ps.length pc) (.slice none 0 0)) ∧ Hid (Gro mb w w5) ∧ BldP w5 b mb x y z ia il ic := by
        have hdr : Below wr.heap.size wr { wr with drawn := wr.drawn + 1 } := ⟨rfl, rfl, rfl, Nat.le_refl _, fun _ _ => rfl⟩
        exact ⟨_, rfl, Lib.hid (HMW.out.kept hdr), hnb, Lib.hid (hnrow.below hdr), Lib.hid (gro_chain HG.out hdr), HBL.out _ (gro_chain HG.out hdr)⟩
      have CQ : Calls Tryz.prog 45 #[.map (some mb), .agg #[.int .i64 2, .string ⟨#[]⟩, .slice pa ps.length pc, .slice none 0 0]] w5 _ := pput12_walk mb (.slice pa ps.length pc) (.slice none 0 0) oo (fileN ps) w5 HM5.out HNR5.out hfn (by simp [fileN]) (by simp [fileN]; omega) (by simp [fileN]) (by simp [fileN])
      clear hnrow hfn hnb
      (refine wp_region_held (S := fun w' => BldP w' b mb x y z ia il ic ∧ w'.heap[w.heap.size]? = some (.cells #[.int .i64 2, .string ⟨#[]⟩, .slice pa ps.length pc, .slice none 0 0] 40 (0, 0))) (by kernel_rfl) ?_)
      rw [← hw5]
      clear hw5
      (refine wpAnyH_take (i := 0) (v := ?_) rfl (by kernel_rfl) (by kernel_rfl) (by kernel_rfl) (fun _ _ _ h => h) (Or.inl ⟨by rfl, ?_⟩) (by exact ⟨hbl5, hb5⟩) ?_; rotate_left; (intro w9 hS9; skip; go_simp; try with_reducible rfl))
      (refine wpAnyH_take (i := 1) (v := ?_) rfl (by kernel_rfl) (by kernel_rfl) (by kernel_rfl) (fun _ _ _ h => h) (Or.inl ⟨by rfl, ?_⟩) (by exact ⟨hbl5, hb5⟩) ?_; rotate_left; (intro w9 hS9; skip; go_simp; try with_reducible rfl))
      (refine wpAnyH_take (i := 2) (v := ?_) rfl (by kernel_rfl) (by kernel_rfl) (by kernel_rfl) (fun _ _ _ h => h) (Or.inl ⟨by rfl, ?_⟩) (by exact ⟨hbl5, hb5⟩) ?_; rotate_left; (intro w9 hS9; skip; go_simp; try with_reducible rfl))
      (refine wpAnyH_take (i := 3) (v := ?_) rfl (by kernel_rfl) (by kernel_rfl) (by kernel_rfl) (fun _ _ _ h => h) (Or.inl ⟨by rfl, ?_⟩) (by exact ⟨hbl5, hb5⟩) ?_; rotate_left; (intro w9 hS9; (obtain ⟨c0, -⟩ := bld_cells hS9.1); go_simp; try with_reducible rfl))
      (refine wpAnyH_take (i := 4) (v := ?_) rfl (by kernel_rfl) (by kernel_rfl) (by kernel_rfl) (fun _ _ _ h => h) (Or.inl ⟨by rfl, ?_⟩) (by exact ⟨hbl5, hb5⟩) ?_; rotate_left; (intro w9 hS9; (obtain ⟨⟨z0, z1, z2, z3⟩, -, -⟩ := box4 hS9.2); go_simp; try with_reducible rfl))
      refine wpAnyH_one (i := 5) (by kernel_rfl) rfl (fun K hK => ?_)
      go_simp
      refine (CQ).mono ?_
      rintro e w6 ⟨rfl, hm6, hg6⟩
      have HG6 := Lib.hid (World.grownBy.trans HG5.out hg6)
      have hbl6 := HBL.out w6 HG6.out
      have hb6 := (hg6.block _ (heap_lt hb5) (fun e => by have := Option.some.inj e; have := HMB.out; omega)).trans hb5
      have HM6 := Lib.hid hm6
      clear CQ hm6 hg6
      refine hK _ _ ⟨hbl6, hb6⟩ ?_
      clear hK K
      (refine wpAnyH_take (i := 6) (v := ?_) rfl (by kernel_rfl) (by kernel_rfl) (by kernel_rfl) (fun _ _ _ h => h) (Or.inl ⟨by rfl, ?_⟩) (by exact ⟨hbl6, hb6⟩) ?_; rotate_left; (intro w9 hS9; skip; go_simp; try with_reducible rfl))
      (refine wpAnyH_done (by kernel_rfl) ?_ _)
      go_wp2
      go_ret
      exact ⟨rfl, by rw [← HEQ.out]; exact HM6.out, HG6.out⟩
end Go.Proofs.YtbmdoekfbkpaeaaGreatDoor
