/- The reference's objects of a file. The reference's parts: what lies between the slashes. The reference's Split and Fit. The reference's Join and Dir. A tree's items in memory. -/
import Derived.Test.YtaompdnnkfmjhaaGreatDoorJRKey11
import Derived.Test.YtaompdnnkfmjhaaGreatDoorJCdcPlain
import Derived.Test.YtaompdnnkfmjhaaGreatDoorJRSha4
import Derived.Test.YtaompdnnkfmjhaaGreatDoorJPFit11
import Derived.RangeFuncBox
import Derived.Test.YtaompdnnkfmjhaaGreatDoorJPlain
import Derived.Test.YtaompdnnkfmjhaaGreatDoorJRange
import Derived.Test.YtaompdnnkfmjhaaGreatDoorJCList
import Derived.Test.YtaompdnnkfmjhaaGreatDoorJKeyNP
namespace Go.Proofs.YtaompdnnkfmjhaaGreatDoor
open Go.RowKit

theorem nod_kept {w : World} {b : Nat} {a1 a2 a3 a4 : Value} (h : w.heap[b]? = some (.cells #[a1, a2, a3, a4] 36 (0, 0))) (v : Value) : (w.setCell ⟨b, 2, none⟩ v).heap[b]? = some (.cells #[a1, a2, v, a4] 36 (0, 0)) := heap_set_cell (o := 2) h v
theorem own_cell {w : World} {b base e K n : Nat} {v : Value} {xs : List Value} (h : w.ownsRow base e K v n xs) (hb : b < base) (u : Value) (o : Nat) : (w.setCell ⟨b, o, none⟩ u).ownsRow base e K v n xs :=
  h.kept (⟨rfl, rfl, rfl, by simp, fun k _ hne => Below.heap_setCell _ _ _ _ (fun e => hne (by rw [e]))⟩ : w.grownBy (w.setCell ⟨b, o, none⟩ u) (some b)) (by
    rcases h.2 with ⟨h, _⟩ | ⟨g, cap, cur, h, hge, _⟩
    · rw [h]; exact .inl rfl
    · rw [h]; refine .inr ?_; simp [Value.ownBlock]; omega)

theorem own_block2 {w w' : World} {B e K n : Nat} {v : Value} {xs : List Value} (h : w.ownsRow B e K v n xs) (hk : ∀ g, v.ownBlock = some g → w'.heap[g]? = w.heap[g]?) : w'.ownsRow B e K v n xs :=
  ⟨h.1, h.2.imp id fun ⟨g, cap, cur, h1, h2, h3, h4⟩ => ⟨g, cap, cur, h1, h2, (hk g (by rw [h1]; rfl)).trans h3, h4⟩⟩
theorem fold_take {α : Type} (f : List Snp → α → List Snp) (o : List Snp) (l : List α) {k : Nat} (h : k < l.length) : (l.take (k + 1)).foldl f o = f ((l.take k).foldl f o) l[k] := by
  rw [List.take_succ_eq_append_getElem h, List.foldl_append]; rfl

/-- Between two rounds of file. -/
def FileI (w w2 : World) (lv tv : Value) (o : List Snp) (ps : List (List UInt8)) (v i : Value) (wr : World) : Prop :=
  ∃ (k : Nat) (o' : List Snp) (la' : Option Addr) (lc' : Nat) (pa : Option Addr) (pc : Nat), k ≤ ps.length ∧ i = .int .i64 k ∧ v = .slice la' o'.length lc' ∧ Hid (OGot w wr lv o (.slice la' o'.length lc') o') ∧ Hid (o' = (ps.take k).foldl (fun o s => putN o (pieceN s)) o) ∧ o'.length ≤ o.length + k ∧
      wr.heap[w.heap.size + 1]? = some (.cells #[.int .i64 2, .string ⟨#[]⟩, .slice pa k pc, .slice none 0 0] 36 (0, 0)) ∧ Hid (wr.ownsRow (w.heap.size + 2) 78 2 (.slice pa k pc) k (((ps.take k).map partN).flatMap prtC)) ∧ Hid (wr.ownsRow (w2.heap.size + 1) 9 1 tv ps.length (ps.map S)) ∧ Hid (Below w.heap.size w wr)

set_option maxHeartbeats 8000000 in
set_option maxRecDepth 100000 in
theorem rfile12_walk (x k y z : Nat) (lv : Value) (o : List Snp) (data : List UInt8) (w : World) (hf : FitC x k z) (hpk : 2 ^ k = y) (hl : SnpRow w lv o) (hcnt : o.length ≤ 900000) (hd : data.length ≤ 32768) (hps : (piecesC x k z data).length ≤ 1024) :
    Calls Tryz.prog 71 #[PrmV x y z, lv, S data] w fun e w' => ∃ v', e = .returned (.tuple #[v', S (keyN (fileN (piecesC x k z data)))]) ∧ OGot w w' lv o v' (fileO o (piecesC x k z data)) ∧ Below w.heap.size w w' := by
  obtain ⟨i0, hi, hz0, hz1, hz2⟩ := info_parts infoPrt
  have HL := Lib.hid hl
  obtain ⟨la, lc, rfl, -⟩ := hl
  obtain ⟨w1, hw1, hb1, hp1, hs1⟩ : ∃ w1, w1 = w.alloc (.cells #[.int .i64 (x : Nat), .int .i64 (y : Nat), .int .i64 (z : Nat)] 51) ∧ Below w.heap.size w w1 ∧ w1.heap[w.heap.size]? = some (.cells #[.int .i64 (x : Nat), .int .i64 (y : Nat), .int .i64 (z : Nat)] 51 (0, 0)) ∧ w1.heap.size = w.heap.size + 1 :=
    ⟨_, rfl, (Below.refl _ _).alloc (Nat.le_refl _) _, heap_alloc_new _ _, by simp⟩
  obtain ⟨w2, hw2, hb2, hn2, hs2⟩ : ∃ w2, w2 = w1.alloc (.cells #[.int .i64 2, .string ⟨#[]⟩, .slice none 0 0, .slice none 0 0] 36) ∧ Below w1.heap.size w1 w2 ∧ w2.heap[w.heap.size + 1]? = some (.cells #[.int .i64 2, .string ⟨#[]⟩, .slice none 0 0, .slice none 0 0] 36 (0, 0)) ∧ w2.heap.size = w.heap.size + 2 :=
    ⟨_, rfl, (Below.refl _ _).alloc (Nat.le_refl _) _, by rw [← hs1]; exact heap_alloc_new _ _, by rw [World.size_alloc, hs1]⟩
  have hp2 := (hb2.block _ (heap_lt hp1)).trans hp1
  have c0 := heap_cell hp2 (j := 0) (v := .int .i64 (x : Nat)) rfl
  have c1 := heap_cell hp2 (j := 1) (v := .int .i64 (y : Nat)) rfl
  have c2 := heap_cell hp2 (j := 2) (v := .int .i64 (z : Nat)) rfl
  have CP := r07pieces_walk x k y z data w2 hf hpk (by omega)
  have HEACH := Lib.hid (piecesC_each (s := data) hf)
  have HFLAT := Lib.hid (piecesC_flat (s := data) hf)
  have HPS := Lib.hid hps
  obtain ⟨ps, hpse⟩ : ∃ ps, piecesC x k z data = ps := ⟨_, rfl⟩
  rw [hpse] at CP HEACH HFLAT HPS
  rw [hpse]
  have HB2 := Lib.hid (below_chain hb1 hb2 hb1.size)
  have HN2 := Lib.hid hn2
  clear hpse hps hp2 hp1 hn2 hf hpk
  go_enter Tryz.func71, Tryz.ntmps71
  go_upto_region 1 with fail
  rw [← hw1]
  clear hw1
  go_upto_region 2 with fail
  rw [← hw2]
  clear hw2
  go_wp2_with fail
  refine CP.mono ?_
  rintro e w3 ⟨tv, rfl, htr, hb3⟩
  obtain ⟨ta, tc, rfl⟩ : ∃ ta tc, tv = .slice ta ps.length tc := by
    rcases htr.2 with ⟨h, hn⟩ | ⟨g, cap, _, h, _⟩
    · exact ⟨none, 0, by rw [h, hn]⟩
    · exact ⟨_, _, h⟩
  have HTR := Lib.hid htr
  have HB3 := Lib.hid (below_chain HB2.out hb3 HB2.out.size)
  have HS3 := Lib.hid (show w.heap.size + 2 ≤ w3.heap.size by rw [← hs2]; exact hb3.size)
  have HN3 := Lib.hid ((hb3.block _ (heap_lt HN2.out)).trans HN2.out)
  have HL3 := Lib.hid (HL.out.below HB3.out)
  have HS2 := Lib.hid hs2
  have hpl := HPS.out
  clear CP c0 c1 c2 hb1 hb2 hb3 htr HN2 hs1 hs2
  go_wp2
  go_loopw [1, 10, 11] (fun v i _ wr => FileI w w2 (.slice la o.length lc) (.slice ta ps.length tc) o ps v i wr) (fun _ i _ _ => ps.length - (intOf i).toNat)
  case atStart => exact ⟨0, o, la, lc, none, 0, Nat.zero_le _, rfl, rfl, Lib.hid (.inl ⟨rfl, rfl⟩), Lib.hid rfl, by omega, HN3.out, Lib.hid (World.ownsRow_nil _ _ _ _), HTR, HB3⟩
  case round =>
    obtain ⟨k, o', la', lc', pa, pc, hk, rfl, rfl, HLR, HO, hol, hbx, HPR, HTW, HB⟩ := hrel
    clear HTR HL3 HN3 HB3
    obtain ⟨⟨z0, z1, z2, z3⟩, ⟨y0, y1, y2, y3⟩, ⟨x0, x1, x2, x3⟩⟩ := box4 hbx
    have HLW := Lib.hid (HLR.out.row HL.out HB.out)
    by_cases h1 : k < ps.length
    · have h1' : (k : Int) < (ps.length : Int) := by omega
      obtain ⟨_, _, hv, _, _, hx⟩ := StrRow.of_owns HTW.out
      cases hv
      rcases hx with hx | ⟨g, o2, rfl, hx⟩
      · exfalso; rw [hx] at h1; simp at h1
      have hc1 := str_cell hx h1
      have HFT := Lib.hid (show (ps.take (k + 1)).foldl (fun o s => putN o (pieceN s)) o = putN o' (pieceN ps[k]) by rw [fold_take _ _ _ h1, HO.out])
      have HPT := Lib.hid (show ((ps.take (k + 1)).map partN).flatMap prtC = ((ps.take k).map partN).flatMap prtC ++ [S (keyN (pieceN ps[k])), .int .i64 (ps[k].length : Nat)] by rw [List.take_succ_eq_append_getElem h1, List.map_append, List.flatMap_append]; rfl)
      have hsl := (HEACH.out ps[k] (by simp)).2
      generalize ps[k] = s at *
      have CQ : Calls Tryz.prog 72 #[.slice la' o'.length lc', .agg #[.int .i64 1, S s, .slice none 0 0, .slice none 0 0]] wr _ := rput12b_walk (.slice la' o'.length lc') (.slice none 0 0) (.slice none 0 0) o' (pieceN s) wr HLW.out ⟨Row.nil _ _, Row.nil _ _⟩ (by omega) (by simp; omega) (by simp) (by simp) (by simp)
      clear hx
      go_wp2_with fail
      refine CQ.mono ?_
      rintro e w4 ⟨v4, rfl, hr4, hg4, hb4⟩
      have HL4 := Lib.hid (show (putN o' (pieceN s)).length ≤ o'.length + 1 from addO_len _ _)
      change SnpRow w4 v4 (putN o' (pieceN s)) at hr4
      change OGot wr w4 _ o' v4 (putN o' (pieceN s)) at hg4
      generalize putN o' (pieceN s) = o4 at *
      generalize keyN (pieceN s) = kk at *
      obtain ⟨qa, qc, rfl⟩ := row_slice hr4
      obtain ⟨w5, hw5, HR5, hbx5, HPR5, HTR5, HB5, hc5⟩ : ∃ w5 : World, w5 = { w4 with drawn := w4.drawn + 1 } ∧ Hid (OGot w w5 (.slice la o.length lc) o (.slice qa o4.length qc) o4) ∧ w5.heap[w.heap.size + 1]? = some (.cells #[.int .i64 2, .string ⟨#[]⟩, .slice pa k pc, .slice none 0 0] 36 (0, 0)) ∧ Hid (w5.ownsRow (w.heap.size + 2) 78 2 (.slice pa k pc) k (((ps.take k).map partN).flatMap prtC)) ∧ Hid (w5.ownsRow (w2.heap.size + 1) 9 1 (.slice (some ⟨g, o2, none⟩) ps.length tc) ps.length (ps.map S)) ∧ Hid (Below w.heap.size w w5) ∧ w5.cell? ⟨g, o2 + k, none⟩ = some (S s) := by
        have hd : Below wr.heap.size wr { w4 with drawn := w4.drawn + 1 } := hb4.trans ⟨rfl, rfl, rfl, Nat.le_refl _, fun _ _ => rfl⟩
        exact ⟨_, rfl, Lib.hid ((HLR.out.trans hg4 hb4 HB.out.size).below ⟨rfl, rfl, rfl, Nat.le_refl _, fun _ _ => rfl⟩), (hd.block _ (heap_lt hbx)).trans hbx, Lib.hid (own_on HPR.out hd), Lib.hid (own_on HTW.out hd), Lib.hid (below_chain HB.out hd HB.out.size), cell_below hd hc1⟩
      clear CQ hr4 hg4 hb4 z0 z1 z2 z3 y0 y1 y2 y3 x0 x1 x2 x3 hbx hc1
      go_upto_region 8 with fail
      obtain ⟨⟨z0, z1, z2, z3⟩, ⟨y0, y1, y2, y3⟩, ⟨x0, x1, x2, x3⟩⟩ := box4 hbx5
      obtain ⟨⟨q0, q1, q2, q3⟩, -, -⟩ := box4 ((Below.heap_alloc w5 (.cells #[S kk, .int .i64 s.length] 78) _ (heap_lt hbx5)).trans hbx5)
      have HSL := Lib.hid (show w.heap.size + 2 ≤ w5.heap.size from by have := heap_lt hbx5; omega)
      have HOA := Lib.hid (HPR5.out.alloc (.cells #[S kk, .int .i64 s.length] 78))
      have HNC := Lib.hid (new_cells w5 (S kk) (.int .i64 s.length) 78)
      have HFIN := Lib.hid (fun (w7 : World) (g' cap' : Nat) (hown' : w7.ownsRow (w.heap.size + 2) 78 2 (.slice (some ⟨g', 0, none⟩) (k + 1) cap') (k + 1) (((ps.take k).map partN).flatMap prtC ++ [S kk, .int .i64 s.length])) (hgrow : (w5.alloc (.cells #[S kk, .int .i64 s.length] 78)).grownBy w7 (Value.slice pa k pc).ownBlock) =>
        show Hid (w7.heap[w.heap.size + 1]? = some (.cells #[.int .i64 2, .string ⟨#[]⟩, .slice pa k pc, .slice none 0 0] 36 (0, 0))) ∧ Hid (FileI w w2 (.slice la o.length lc) (.slice (some ⟨g, o2, none⟩) ps.length tc) o ps (.slice qa o4.length qc) (.int .i64 ((k : Int) + 1)) (w7.setCell ⟨w.heap.size + 1, 2, none⟩ (.slice (some ⟨g', 0, none⟩) (k + 1) cap'))) from by
        have hne : ∀ j, (Value.slice pa k pc).ownBlock = some j → w.heap.size + 2 ≤ j := fun j hj => (HOA.out.lt j hj).1
        have hold : ∀ j, j < w5.heap.size → some j ≠ (Value.slice pa k pc).ownBlock → w7.heap[j]? = w5.heap[j]? := fun j hj hn => (hgrow.block j (by rw [World.size_alloc]; omega) hn).trans (Below.heap_alloc _ _ _ hj)
        have hb7 : w7.heap[w.heap.size + 1]? = some (.cells #[.int .i64 2, .string ⟨#[]⟩, .slice pa k pc, .slice none 0 0] 36 (0, 0)) := (hold _ (heap_lt hbx5) (fun e => by have := hne _ e.symm; omega)).trans hbx5
        have hB7 : Below w.heap.size w w7 := (HB5.out.alloc HB5.out.size _).grown hgrow (by rw [World.size_alloc]; have := HB5.out.size; omega) (fun j hj => by have := hne j hj; omega)
        have hg7 : OGot w w7 (.slice la o.length lc) o (.slice qa o4.length qc) o4 := by
          have h5 := HR5.out
          rcases HPR5.out.2 with ⟨h, _⟩ | ⟨gg, cap, cur, h, _, hgg, _⟩
          · refine h5.imp id fun h5 => ?_
            exact own_block2 h5 fun j hj => hold j (h5.lt j hj).2 (by rw [h]; simp [Value.ownBlock])
          · exact h5.type hgg (by decide) (fun j hj hlt => hold j hlt (by rw [h]; simp [Value.ownBlock]; exact hj))
        have ht7 : w7.ownsRow (w2.heap.size + 1) 9 1 (.slice (some ⟨g, o2, none⟩) ps.length tc) ps.length (ps.map S) := by
          have h5 := HTR5.out
          rcases HPR5.out.2 with ⟨h, _⟩ | ⟨gg, cap, cur, h, _, hgg, _⟩
          · exact own_block2 h5 fun j hj => hold j (h5.lt j hj).2 (by rw [h]; simp [Value.ownBlock])
          · exact own_type h5 hgg (by decide) (fun j hj hlt => hold j hlt (by rw [h]; simp [Value.ownBlock]; exact hj))
        refine ⟨Lib.hid hb7, Lib.hid ⟨k + 1, o4, qa, qc, some ⟨g', 0, none⟩, cap', by omega, by go_num, rfl, Lib.hid (hg7.type hb7 (by decide) (fun j hj _ => Below.heap_setCell _ _ _ _ hj)), Lib.hid HFT.out.symm, by have := HL4.out; omega, nod_kept hb7 _, Lib.hid (own_cell (by rw [HPT.out]; exact hown') (by omega) _ _), Lib.hid (own_cell ht7 (by have := HS2.out; omega) _ _), Lib.hid (hB7.setCell (p := ⟨w.heap.size + 1, 2, none⟩) (by show w.heap.size ≤ w.heap.size + 1; omega) _)⟩⟩)
      (refine wp_region_held (S := fun _ => True) (by kernel_rfl) ?_)
      rw [← hw5]
      clear hw5
      (refine wpAnyH_take (i := 0) (v := ?_) rfl (by kernel_rfl) (by kernel_rfl) (by kernel_rfl) (fun _ _ _ h => h) (Or.inl ⟨by rfl, ?_⟩) (by exact trivial) ?_; rotate_left; (intro w9 hS9; skip; go_simp; try with_reducible rfl))
      (refine wpAnyH_take (i := 2) (v := ?_) rfl (by kernel_rfl) (by kernel_rfl) (by kernel_rfl) (fun _ _ _ h => h) (Or.inl ⟨by rfl, ?_⟩) (by exact trivial) ?_; rotate_left; (intro w9 hS9; skip; go_simp; try with_reducible rfl))
      (refine wpAnyH_take (i := 3) (v := ?_) rfl (by kernel_rfl) (by kernel_rfl) (by kernel_rfl) (fun _ _ _ h => h) (Or.inl ⟨by rfl, ?_⟩) (by exact trivial) ?_; rotate_left; (intro w9 hS9; skip; go_simp; try with_reducible rfl))
      (refine wpAnyH_take (i := 4) (v := ?_) rfl (by kernel_rfl) (by kernel_rfl) (by kernel_rfl) (fun _ _ _ h => h) (Or.inl ⟨by rfl, ?_⟩) (by exact trivial) ?_; rotate_left; (intro w9 hS9; skip; go_simp; try with_reducible rfl))
      (refine wpAnyH_take (i := 5) (v := ?_) rfl (by kernel_rfl) (by kernel_rfl) (by kernel_rfl) (fun _ _ _ h => h) (Or.inl ⟨by rfl, ?_⟩) (by exact trivial) ?_; rotate_left; (intro w9 hS9; skip; go_simp; try with_reducible rfl))
      refine wpAnyH_two (i := 1) (j := 6) (by kernel_rfl) rfl rfl (fun K hK => ?_) (fun K hK => ?_)
      · (go_simp; refine hK _ _ trivial ?_; clear hK K)
        refine wpAnyH_one (i := 6) (by kernel_rfl) rfl (fun K hK => ?_)
        (go_simp; refine hK _ _ trivial ?_; clear hK K)
        (refine wpAnyH_take (i := 7) (v := ?_) rfl (by kernel_rfl) (by kernel_rfl) (by kernel_rfl) (fun _ _ _ h => h) (Or.inl ⟨by rfl, ?_⟩) (by exact trivial) ?_; rotate_left; (intro w9 hS9; skip; go_simp; try with_reducible rfl))
        (refine wpAnyH_take (i := 8) (v := ?_) rfl (by kernel_rfl) (by kernel_rfl) (by kernel_rfl) (fun _ _ _ h => h) (Or.inl ⟨by rfl, ?_⟩) (by exact trivial) ?_; rotate_left; (intro w9 hS9; skip; go_simp; try with_reducible rfl))
        (refine wpAnyH_one (i := 9) (by kernel_rfl) rfl (fun K hK => ?_); go_simp; refine hK _ _ (trivial) ?_; clear hK K)
        refine wpAnyH_one (i := 10) (by kernel_rfl) rfl (fun K hK => ?_)
        rw [if_pos (by rfl)]
        refine wp_append_own _ (.tmp 33) (.tmp 41) 33 rfl (w.heap.size + 2) 78 i0 (.agg #[.string ⟨#[]⟩, .int .i64 0]) 2 24 Tryz.underlying33 hi hz0 hz1 hz2 rfl (by decide) (.slice pa k pc) k (((ps.take k).map partN).flatMap prtC) rfl HOA.out ⟨w5.heap.size, 0, none⟩ 1 1 [S kk, .int .i64 s.length] rfl rfl HNC.out (by intro u hu; simp at hu; rcases hu with rfl | rfl <;> rfl) (by unfold maxLen; omega) (by omega) (by simp; have := HB5.out.size; have := HSL.out; omega) ?_
        intro v' w7 hown' hgrow _
        obtain ⟨g', cap', rfl⟩ := ownsRow_succ hown'
        obtain ⟨HBX7, HEND⟩ := HFIN.out w7 g' cap' hown' hgrow
        obtain ⟨⟨z0, z1, z2, z3⟩, ⟨y0, y1, y2, y3⟩, ⟨x0, x1, x2, x3⟩⟩ := box4 HBX7.out
        clear hown' hgrow
        refine hK _ _ trivial ?_
        clear hK K
        (refine wpAnyH_take (i := 11) (v := ?_) rfl (by kernel_rfl) (by kernel_rfl) (by kernel_rfl) (fun _ _ _ h => h) (Or.inl ⟨by rfl, ?_⟩) (by exact trivial) ?_; rotate_left; (intro w9 hS9; skip; go_simp; try with_reducible rfl))
        refine wpAnyH_one (i := 12) (by kernel_rfl) rfl (fun K hK => ?_)
        (go_simp; refine hK _ _ trivial ?_; clear hK K)
        (refine wpAnyH_done (by kernel_rfl) ?_ _)
        go_wp2
        go_roundw
        case rel => exact HEND.out
        case measure => simp [intOf]; omega
      · (go_simp; refine hK _ _ trivial ?_; clear hK K)
        (refine wpAnyH_take (i := 7) (v := ?_) rfl (by kernel_rfl) (by kernel_rfl) (by kernel_rfl) (fun _ _ _ h => h) (Or.inl ⟨by rfl, ?_⟩) (by exact trivial) ?_; rotate_left; (intro w9 hS9; skip; go_simp; try with_reducible rfl))
        (refine wpAnyH_take (i := 8) (v := ?_) rfl (by kernel_rfl) (by kernel_rfl) (by kernel_rfl) (fun _ _ _ h => h) (Or.inl ⟨by rfl, ?_⟩) (by exact trivial) ?_; rotate_left; (intro w9 hS9; skip; go_simp; try with_reducible rfl))
        refine wpAnyH_two (i := 1) (j := 9) (by kernel_rfl) rfl rfl (fun K hK => ?_) (fun K hK => ?_)
        · (go_simp; refine hK _ _ trivial ?_; clear hK K)
          (refine wpAnyH_one (i := 9) (by kernel_rfl) rfl (fun K hK => ?_); go_simp; refine hK _ _ (trivial) ?_; clear hK K)
          refine wpAnyH_one (i := 10) (by kernel_rfl) rfl (fun K hK => ?_)
          rw [if_pos (by rfl)]
          refine wp_append_own _ (.tmp 33) (.tmp 41) 33 rfl (w.heap.size + 2) 78 i0 (.agg #[.string ⟨#[]⟩, .int .i64 0]) 2 24 Tryz.underlying33 hi hz0 hz1 hz2 rfl (by decide) (.slice pa k pc) k (((ps.take k).map partN).flatMap prtC) rfl HOA.out ⟨w5.heap.size, 0, none⟩ 1 1 [S kk, .int .i64 s.length] rfl rfl HNC.out (by intro u hu; simp at hu; rcases hu with rfl | rfl <;> rfl) (by unfold maxLen; omega) (by omega) (by simp; have := HB5.out.size; have := HSL.out; omega) ?_
          intro v' w7 hown' hgrow _
          obtain ⟨g', cap', rfl⟩ := ownsRow_succ hown'
          obtain ⟨HBX7, HEND⟩ := HFIN.out w7 g' cap' hown' hgrow
          obtain ⟨⟨z0, z1, z2, z3⟩, ⟨y0, y1, y2, y3⟩, ⟨x0, x1, x2, x3⟩⟩ := box4 HBX7.out
          clear hown' hgrow
          refine hK _ _ trivial ?_
          clear hK K
          (refine wpAnyH_take (i := 11) (v := ?_) rfl (by kernel_rfl) (by kernel_rfl) (by kernel_rfl) (fun _ _ _ h => h) (Or.inl ⟨by rfl, ?_⟩) (by exact trivial) ?_; rotate_left; (intro w9 hS9; skip; go_simp; try with_reducible rfl))
          refine wpAnyH_one (i := 12) (by kernel_rfl) rfl (fun K hK => ?_)
          (go_simp; refine hK _ _ trivial ?_; clear hK K)
          (refine wpAnyH_done (by kernel_rfl) ?_ _)
          go_wp2
          go_roundw
          case rel => exact HEND.out
          case measure => simp [intOf]; omega
        · (go_simp; refine hK _ _ trivial ?_; clear hK K)
          refine wpAnyH_one (i := 1) (by kernel_rfl) rfl (fun K hK => ?_)
          (go_simp; refine hK _ _ trivial ?_; clear hK K)
          refine wpAnyH_one (i := 10) (by kernel_rfl) rfl (fun K hK => ?_)
          rw [if_pos (by rfl)]
          refine wp_append_own _ (.tmp 33) (.tmp 41) 33 rfl (w.heap.size + 2) 78 i0 (.agg #[.string ⟨#[]⟩, .int .i64 0]) 2 24 Tryz.underlying33 hi hz0 hz1 hz2 rfl (by decide) (.slice pa k pc) k (((ps.take k).map partN).flatMap prtC) rfl HOA.out ⟨w5.heap.size, 0, none⟩ 1 1 [S kk, .int .i64 s.length] rfl rfl HNC.out (by intro u hu; simp at hu; rcases hu with rfl | rfl <;> rfl) (by unfold maxLen; omega) (by omega) (by simp; have := HB5.out.size; have := HSL.out; omega) ?_
          intro v' w7 hown' hgrow _
          obtain ⟨g', cap', rfl⟩ := ownsRow_succ hown'
          obtain ⟨HBX7, HEND⟩ := HFIN.out w7 g' cap' hown' hgrow
          obtain ⟨⟨z0, z1, z2, z3⟩, ⟨y0, y1, y2, y3⟩, ⟨x0, x1, x2, x3⟩⟩ := box4 HBX7.out
          clear hown' hgrow
          refine hK _ _ trivial ?_
          clear hK K
          (refine wpAnyH_take (i := 11) (v := ?_) rfl (by kernel_rfl) (by kernel_rfl) (by kernel_rfl) (fun _ _ _ h => h) (Or.inl ⟨by rfl, ?_⟩) (by exact trivial) ?_; rotate_left; (intro w9 hS9; skip; go_simp; try with_reducible rfl))
          refine wpAnyH_one (i := 12) (by kernel_rfl) rfl (fun K hK => ?_)
          (go_simp; refine hK _ _ trivial ?_; clear hK K)
          (refine wpAnyH_done (by kernel_rfl) ?_ _)
          go_wp2
          go_roundw
          case rel => exact HEND.out
          case measure => simp [intOf]; omega
    · have h1' : ¬ (k : Int) < (ps.length : Int) := by omega
      obtain rfl : k = ps.length := by omega
      have hprow : NodRow wr (fileN ps) (.slice pa ps.length pc) (.slice none 0 0) := by
        have h := HPR.out
        rw [List.take_of_length_le (Nat.le_refl _)] at h
        refine ⟨Row.of_ownsK (f := prtC) (K := 2) (base := w.heap.size + 2) (e := 78) (fun _ => rfl) ?_, Row.nil _ _⟩
        show wr.ownsRow _ _ _ _ (ps.map partN).length _
        rw [List.length_map]; exact h
      have CQ : Calls Tryz.prog 72 #[.slice la' o'.length lc', .agg #[.int .i64 2, .string ⟨#[]⟩, .slice pa ps.length pc, .slice none 0 0]] wr _ := rput12b_walk (.slice la' o'.length lc') (.slice pa ps.length pc) (.slice none 0 0) o' (fileN ps) wr HLW.out hprow (by omega) (by simp [fileN]) (by simp [fileN]; omega) (by simp [fileN]) (by simp [fileN])
      have HE := Lib.hid (show addO o' (keyN (fileN ps), writeN (fileN ps)) = fileO o ps by rw [HO.out, List.take_of_length_le (Nat.le_refl _)]; rfl)
      clear hprow
      go_wp2_with fail
      refine CQ.mono ?_
      rintro e w4 ⟨v4, rfl, hr4, hg4, hb4⟩
      have HR4 := Lib.hid (HLR.out.trans hg4 hb4 HB.out.size)
      have HB4 := Lib.hid (below_chain HB.out hb4 HB.out.size)
      clear hr4 hg4 hb4 CQ
      go_wp2
      go_ret2
      exact ⟨_, rfl, by rw [← HE.out]; exact HR4.out, HB4.out⟩
end Go.Proofs.YtaompdnnkfmjhaaGreatDoor

namespace Go.Proofs.YtaompdnnkfmjhaaGreatDoor
open Go.RowKit

theorem byte_ne {c : UInt8} (h : c ≠ 47) : ((c.toNat : Int) == 47) = false := by
  rw [beq_eq_false_iff_ne]; intro e; exact h (UInt8.toNat_inj.1 (by simp; omega))

set_option maxHeartbeats 1100000 in
set_option maxRecDepth 100000 in
theorem rparts_walk (l : List UInt8) (w : World) (hl : l.length ≤ 1100000) :
    Calls Tryz.prog 91 #[S l] w fun e w' => ∃ v, e = .returned v ∧ StrRow w' v (partsL l) ∧ Below w.heap.size w w' := by
  obtain ⟨i0, hi, hz0, hz1, hz2⟩ := info_parts infoStr
  go_enter Tryz.func91, Tryz.ntmps91
  go_wp2
  go_loopw [3, 4, 5] (fun v fr i wr => ∃ (k f : Nat) (dn : List (List UInt8)), i = .int .i64 k ∧ fr = .int .i64 f ∧ wr.ownsRow w.heap.size 9 1 v dn.length (dn.map S) ∧ Below w.heap.size w wr ∧ dn.length ≤ k ∧
      ((k ≤ l.length ∧ f ≤ k ∧ partsL l = dn ++ partsL (l.drop f) ∧ ∀ c ∈ cutL l f k, c ≠ 47) ∨ (k = l.length + 1 ∧ dn = partsL l)))
    (fun _ _ i _ => l.length + 1 - (intOf i).toNat)
  case atStart => exact ⟨0, 0, [], rfl, rfl, World.ownsRow_nil _ _ _ _, Below.refl _ _, Nat.zero_le _, .inl ⟨Nat.zero_le _, Nat.le_refl _, rfl, by rw [cutL_self]; intro c hc; cases hc⟩⟩
  case round =>
    obtain ⟨k, f, dn, rfl, rfl, hown, hB, hdk, hst⟩ := hrel
    rcases hst with ⟨hk, hf, hp, hn⟩ | ⟨hk, hd⟩
    · have HP := Lib.hid hp
      have HNs := Lib.hid hn
      clear hp hn
      have hsz := hB.size
      by_cases hke : k = l.length
      · have HE := Lib.hid (parts_step_end (Nat.le_of_eq hke.symm) HNs.out HP.out)
        have h1 : ((k : Int) == (l.length : Int)) = true := by rw [hke]; simp
        have h2 : (k : Int) ≤ (l.length : Int) := by omega
        have h3 : l.length ≤ k := by omega
        clear hke
        go_wp2_with (at_builtin; refine wpList_append_own _ rfl _ _ 23 rfl w.heap.size 9 i0 (.string ⟨#[]⟩) 1 16 Tryz.underlying23 hi hz0 hz1 hz2 rfl (by decide) _ _ _ rfl (hown.alloc _) ⟨wr.heap.size, 0, none⟩ 1 1 [.string (({ data := l.toArray } : ByteArray).extract f k)] rfl rfl ?c1 ?c2 ?c3 ?c4 ?c5 ?_)
        case c1 => exact new_cell _ _ _
        case c2 => intro u hu; simp at hu; subst hu; rfl
        case c3 => unfold maxLen; omega
        case c4 => omega
        case c5 => simp; omega
        intro v' w1 hown' hgrow _
        have hB1 : Below w.heap.size w w1 := (hB.alloc hsz _).grown hgrow (by simp; omega) (fun j hj => (hown.lt j hj).1)
        have HO := Lib.hid hown'
        clear hown' hgrow hown
        go_wp2
        go_roundw
        case rel =>
          refine ⟨k + 1, k + 1, dn ++ [cutL l f k], by go_num, by go_num, ?_, hB1, by simp; omega, .inr ⟨by omega, HE.out.symm⟩⟩
          have := HO.out
          rw [S_extract] at this
          simpa using this
        case measure => simp [intOf]; omega
      · have hlt : k < l.length := by omega
        have h1 : ((k : Int) == (l.length : Int)) = false := by rw [beq_eq_false_iff_ne]; omega
        have h2 : (k : Int) ≤ (l.length : Int) := by omega
        clear hke
        by_cases hs : l[k] = 47
        · have HE := Lib.hid (parts_step_slash hf hlt hs HNs.out HP.out)
          have hc : (({ data := l.toArray } : ByteArray)[k]'hlt).toNat = 47 := by show (l[k]).toNat = 47; rw [hs]; rfl
          clear hs
          go_wp2_with (at_builtin; refine wpList_append_own _ rfl _ _ 23 rfl w.heap.size 9 i0 (.string ⟨#[]⟩) 1 16 Tryz.underlying23 hi hz0 hz1 hz2 rfl (by decide) _ _ _ rfl (hown.alloc _) ⟨wr.heap.size, 0, none⟩ 1 1 [.string (({ data := l.toArray } : ByteArray).extract f k)] rfl rfl ?d1 ?d2 ?d3 ?d4 ?d5 ?_)
          case d1 => exact new_cell _ _ _
          case d2 => intro u hu; simp at hu; subst hu; rfl
          case d3 => unfold maxLen; omega
          case d4 => omega
          case d5 => simp; omega
          intro v' w1 hown' hgrow _
          have hB1 : Below w.heap.size w w1 := (hB.alloc hsz _).grown hgrow (by simp; omega) (fun j hj => (hown.lt j hj).1)
          have HO := Lib.hid hown'
          clear hown' hgrow hown
          go_wp2
          go_roundw
          case rel =>
            refine ⟨k + 1, k + 1, dn ++ [cutL l f k], by go_num, by go_num, ?_, hB1, by simp; omega, .inl ⟨by omega, Nat.le_refl _, HE.out, by rw [cutL_self]; intro c hc; cases hc⟩⟩
            have := HO.out
            rw [S_extract] at this
            simpa using this
          case measure => simp [intOf]; omega
        · have HE := Lib.hid (noslash_step hf hlt hs HNs.out)
          have hc : (((({ data := l.toArray } : ByteArray)[k]'hlt).toNat : Int) == 47) = false := byte_ne hs
          clear hs
          go_wp2
          go_roundw
          case rel => exact ⟨k + 1, f, dn, by go_num, rfl, hown, hB, by omega, .inl ⟨by omega, by omega, HP.out, HE.out⟩⟩
          case measure => simp [intOf]; omega
    · have h2 : ¬ (k : Int) ≤ (l.length : Int) := by omega
      subst hd
      clear hk
      go_wp2
      go_ret
      exact ⟨_, rfl, StrRow.of_owns hown, hB⟩
end Go.Proofs.YtaompdnnkfmjhaaGreatDoor

namespace Go.Proofs.YtaompdnnkfmjhaaGreatDoor
open Go.RowKit

set_option maxHeartbeats 1100000 in
set_option maxRecDepth 100000 in
theorem rsplit_walk (l : List UInt8) (w : World) (hl : l.length ≤ 1100000) :
    Calls Tryz.prog 70 #[S l] w fun e w' => ∃ v, e = .returned v ∧ StrRow w' v (splitL l) ∧ Below w.heap.size w w' := by
  have C := rparts_walk l w hl
  have hlen := partsL_len l
  have hcnt := partsL_count l
  have HS := Lib.hid (show splitL l = if (partsL l).length ≤ 8 ∧ (partsL l).all nameB = true then partsL l else [] from rfl)
  generalize splitL l = sp at HS ⊢
  generalize partsL l = ps at C hlen hcnt HS
  have HL := Lib.hid hlen
  clear hlen
  by_cases h8 : (8 : Int) < (ps.length : Int)
  · obtain rfl : sp = [] := by rw [HS.out, if_neg]; omega
    go_enter Tryz.func70, Tryz.ntmps70
    go_wp2_with (go_at_call 91; refine C.mono ?_; rintro e w1 ⟨v, rfl, ⟨a, c, rfl, hc, hm, hx⟩, hb⟩)
    go_ret
    exact ⟨_, rfl, StrRow.nil _, hb⟩
  · go_enter Tryz.func70, Tryz.ntmps70
    go_wp2_with (go_at_call 91; refine C.mono ?_; rintro e w1 ⟨v, rfl, ⟨a, c, rfl, hc, hm, hx⟩, hb⟩)
    have HX := Lib.hid hx
    have HB := Lib.hid hb
    clear hx hb
    go_loop [4] (fun i => ∃ k : Nat, k ≤ ps.length ∧ i = .int .i64 k ∧ (ps.take k).all nameB = true) (fun i => ps.length - (intOf i).toNat)
    case atStart => exact ⟨0, Nat.zero_le _, rfl, rfl⟩
    case round =>
      obtain ⟨k, hk, rfl, ha⟩ := hrel
      have HA := Lib.hid ha
      clear ha
      by_cases hlt : k < ps.length
      · have hx := HX.out
        rcases hx with hx | ⟨b, o, rfl, hx⟩
        · exfalso; rw [hx] at hlt; simp at hlt
        have hcell := hx k ps[k] (by simp [hlt])
        have hpl : ps[k].length ≤ 1100000 := Nat.le_trans (HL.out _ (List.getElem_mem hlt)) hl
        have C2 := rname_walk ps[k] w1 hpl
        have hcx : k < ps.length → w1.cell? ⟨b, o + k, none⟩ = some (S ps[k]) := fun _ => hcell
        have HT := Lib.hid (allN_take_succ ps k hlt)
        have HBD := Lib.hid (fun h => allN_bad hlt h)
        clear hx hcell
        generalize ps[k] = p at *
        cases hn : nameB p
        · rw [hn] at C2
          have HF := Lib.hid (HBD.out hn)
          clear hn
          go_wp2_with (go_at_call 84; refine C2.mono ?_; rintro e w2 ⟨rfl, rfl⟩)
          go_ret
          exact ⟨_, rfl, by rw [HS.out, if_neg (by rw [HF.out]; simp)]; exact StrRow.nil _, HB.out⟩
        · rw [hn] at C2
          have HF := Lib.hid hn
          clear hn
          go_wp2_with (go_at_call 84; refine C2.mono ?_; rintro e w2 ⟨rfl, rfl⟩)
          go_round
          case rel => exact ⟨k + 1, by omega, by go_num, by rw [HT.out, HA.out, HF.out]; rfl⟩
          case measure => simp [intOf]; omega
      · go_wp2
        go_ret
        have ha := HA.out
        rw [List.take_of_length_le (by omega)] at ha
        exact ⟨_, rfl, by rw [HS.out, if_pos ⟨by omega, ha⟩]; exact ⟨_, _, rfl, hc, hm, HX.out⟩, HB.out⟩

set_option maxHeartbeats 400000 in
theorem rfit_walk (l : List UInt8) (w : World) (hl : l.length ≤ 1100000) :
    Calls Tryz.prog 86 #[S l] w fun e w' => e = .returned (.bool (fitB l)) ∧ Below w.heap.size w w' := by
  have C := rsplit_walk l w hl
  have HF := Lib.hid (show fitB l = decide (0 < (splitL l).length) from rfl)
  generalize fitB l = fb at HF ⊢
  generalize splitL l = sp at C HF
  go_enter Tryz.func86, Tryz.ntmps86
  go_wp2_with (go_at_call 70; refine C.mono ?_; rintro e w1 ⟨v, rfl, ⟨a, c, rfl, hc, hm, hx⟩, hb⟩)
  go_ret
  exact ⟨ret_bool (by rw [HF.out]), hb⟩
end Go.Proofs.YtaompdnnkfmjhaaGreatDoor

namespace Go.Proofs.YtaompdnnkfmjhaaGreatDoor
open Go.RowKit

theorem S_append (a b : List UInt8) : Value.string (({ data := a.toArray } : ByteArray) ++ ({ data := b.toArray } : ByteArray)) = S (a ++ b) := by
  congr 1

set_option maxHeartbeats 1100000 in
set_option maxRecDepth 100000 in
theorem rjoin_walk (v : Value) (ns : List (List UInt8)) (w : World) (hr : StrRow w v ns) (hlen : ∀ p ∈ ns, p.length ≤ 1100000) (hcnt : ns.length ≤ 1100000) :
    Calls Tryz.prog 90 #[v] w fun e w' => e = .returned (S (joinL ns)) ∧ w = w' := by
  obtain ⟨a, c, rfl, hc, hm, hx⟩ := hr
  have HX := Lib.hid hx
  have HL := Lib.hid hlen
  have HS := Lib.hid (show joinL ns = if ns.length ≤ 8 ∧ ns.all nameB = true then joinS ns else [] from rfl)
  generalize joinL ns = jl at HS ⊢
  clear hx hlen
  by_cases h8 : (8 : Int) < (ns.length : Int)
  · obtain rfl : jl = [] := by rw [HS.out, if_neg]; omega
    go_enter Tryz.func90, Tryz.ntmps90
    go_wp2
    go_ret
    exact ⟨rfl, rfl⟩
  · go_enter Tryz.func90, Tryz.ntmps90
    go_wp2
    go_loop [3, 4] (fun s i => ∃ k : Nat, k ≤ ns.length ∧ i = .int .i64 k ∧ (ns.take k).all nameB = true ∧ s = S (joinS (ns.take k))) (fun _ i => ns.length - (intOf i).toNat)
    case atStart => exact ⟨0, Nat.zero_le _, rfl, rfl, rfl⟩
    case round =>
      obtain ⟨k, hk, rfl, ha, rfl⟩ := hrel
      have HA := Lib.hid ha
      have hjl := joinS_len (ns.take k) ha
      have htl : (ns.take k).length = k := by simp; omega
      rw [htl] at hjl
      clear ha htl
      by_cases hlt : k < ns.length
      · have hx := HX.out
        rcases hx with hx | ⟨b, o, rfl, hx⟩
        · exfalso; rw [hx] at hlt; simp at hlt
        have hcx := hx k ns[k] (by simp [hlt])
        have hpl : ns[k].length ≤ 1100000 := HL.out _ (List.getElem_mem hlt)
        have C2 := rname_walk ns[k] w hpl
        have HT := Lib.hid (allN_take_succ ns k hlt)
        have HJ := Lib.hid (joinS_take hlt)
        have HBD := Lib.hid (fun h => allN_bad hlt h)
        clear hx
        generalize ns[k] = p at *
        generalize joinS (ns.take k) = jk at *
        cases hn : nameB p
        · rw [hn] at C2
          have HF := Lib.hid (HBD.out hn)
          clear hn
          go_wp2_with (go_at_call 84; refine C2.mono ?_; rintro e w2 ⟨rfl, rfl⟩)
          go_ret
          exact ⟨ret_str (by rw [HS.out, if_neg (by rw [HF.out]; simp)]), rfl⟩
        · rw [hn] at C2
          have hpl' := nameB_len hn
          have HF := Lib.hid hn
          clear hn
          by_cases hz : k = 0
          · have hz' : ¬ (0 : Int) < (k : Int) := by omega
            have HJ0 := Lib.hid (show jk = [] from List.length_eq_zero_iff.1 (by omega))
            have HZ := Lib.hid hz
            clear hz
            go_wp2_with (go_at_call 84; refine C2.mono ?_; rintro e w2 ⟨rfl, rfl⟩)
            go_round
            case rel => exact ⟨k + 1, by omega, by go_num, by rw [HT.out, HA.out, HF.out]; rfl, by rw [HJ.out, if_pos HZ.out, S_append, HJ0.out]; rfl⟩
            case measure => simp [intOf]; omega
          · have hz' : (0 : Int) < (k : Int) := by omega
            go_wp2_with (go_at_call 84; refine C2.mono ?_; rintro e w2 ⟨rfl, rfl⟩)
            go_round
            case rel => exact ⟨k + 1, by omega, by go_num, by rw [HT.out, HA.out, HF.out]; rfl, by rw [S_append, HJ.out, if_neg hz]; simp⟩
            case measure => simp [intOf]; omega
      · go_wp2
        go_ret
        have ha := HA.out
        rw [List.take_of_length_le (by omega)] at ha
        exact ⟨ret_str (by rw [HS.out, if_pos ⟨by omega, ha⟩, List.take_of_length_le (by omega)]), rfl⟩

set_option maxHeartbeats 400000 in
theorem rdir_walk (l : List UInt8) (w : World) (hl : l.length ≤ 1100000) :
    Calls Tryz.prog 69 #[S l] w fun e w' => e = .returned (S (dirL l)) ∧ Below w.heap.size w w' := by
  have C := rsplit_walk l w hl
  have HF := Lib.hid (show dirL l = if (splitL l).length < 2 then [] else joinL ((splitL l).take ((splitL l).length - 1)) from rfl)
  have hlen := splitL_len l
  have hle := splitL_le l
  generalize dirL l = fb at HF ⊢
  generalize splitL l = sp at C HF hlen hle
  by_cases h2 : (sp.length : Int) < 2
  · go_enter Tryz.func69, Tryz.ntmps69
    go_wp2_with (go_at_call 70; refine C.mono ?_; rintro e w1 ⟨v, rfl, ⟨a, c, rfl, hc, hm, hx⟩, hb⟩)
    go_ret
    exact ⟨ret_str (by rw [HF.out, if_pos (by omega)]), hb⟩
  · go_enter Tryz.func69, Tryz.ntmps69
    go_wp2_with (go_at_call 70; refine C.mono ?_; rintro e w1 ⟨v, rfl, ⟨a, c, rfl, hc, hm, hx⟩, hb⟩)
    have hr : StrRow w1 (.slice a (sp.length - 1) c) (sp.take (sp.length - 1)) := StrRow.take ⟨_, _, rfl, hc, hm, hx⟩ (by omega)
    refine (rjoin_walk _ _ w1 hr (fun p hp => by have := hlen p (List.mem_of_mem_take hp); omega) (by simp; omega)).mono ?_
    rintro e w2 ⟨rfl, rfl⟩
    go_wp2
    go_ret
    exact ⟨ret_str (by rw [HF.out, if_neg (by omega)]), hb⟩
end Go.Proofs.YtaompdnnkfmjhaaGreatDoor

namespace Go.Proofs.YtaompdnnkfmjhaaGreatDoor
open Go.RowKit

abbrev itC (x : Itm) : List Value := [S x.1, .bool x.2.1, .bool x.2.2.1, S x.2.2.2]
abbrev ItV (x : Itm) : Value := .agg #[S x.1, .bool x.2.1, .bool x.2.2.1, S x.2.2.2]
abbrev ItRow := Row itC
theorem infoIt : (Tryz.prog.info? 65).map (fun i => (i.zero, i.size, i.bytes)) = some (some (.agg #[.string ⟨#[]⟩, .bool false, .bool false, .string ⟨#[]⟩]), 4, 40) := by kernel_rfl
theorem itC_len (x : Itm) : (itC x).length = 4 := rfl
theorem it_cells {w : World} {b o : Nat} {xs : List Itm} (h : ∀ j x, xs[j]? = some x → ∀ i u, (itC x)[i]? = some u → w.cell? ⟨b, o + j * (itC x).length + i, none⟩ = some u) {j : Nat} (hj : j < xs.length) :
    w.cell? ⟨b, o + j * 4, none⟩ = some (S xs[j].1) ∧ w.cell? ⟨b, o + j * 4 + 1, none⟩ = some (.bool xs[j].2.1) ∧ w.cell? ⟨b, o + j * 4 + 2, none⟩ = some (.bool xs[j].2.2.1) ∧ w.cell? ⟨b, o + j * 4 + 3, none⟩ = some (S xs[j].2.2.2) :=
  ⟨h j xs[j] (by simp [hj]) 0 _ rfl, h j xs[j] (by simp [hj]) 1 _ rfl, h j xs[j] (by simp [hj]) 2 _ rfl, h j xs[j] (by simp [hj]) 3 _ rfl⟩
theorem it4_one (x : Itm) : ∀ u ∈ itC x, u.oneCell' = true := by
  intro u hu; simp at hu; rcases hu with rfl | rfl | rfl | rfl <;> rfl
theorem it_one (l : List Itm) : ∀ u ∈ l.flatMap itC, u.oneCell' = true := flat_oneK (fun x _ => it4_one x)
/-- An item's zero, in a box. -/
abbrev zC : Array Value := #[.string ⟨#[]⟩, .bool false, .bool false, .string ⟨#[]⟩]
end Go.Proofs.YtaompdnnkfmjhaaGreatDoor
