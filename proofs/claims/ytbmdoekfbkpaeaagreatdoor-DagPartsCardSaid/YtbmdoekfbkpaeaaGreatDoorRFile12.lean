/- The reference's objects of a file. -/
import Derived.Test.YtbmdoekfbkpaeaaGreatDoorJRAdd12
import Derived.Test.YtbmdoekfbkpaeaaGreatDoorJBuildPlain
import Derived.Test.YtbmdoekfbkpaeaaGreatDoorRCdc
import Derived.Test.YtbmdoekfbkpaeaaGreatDoorJR11
import Derived.RangeFuncBox
namespace Go.Proofs.YtbmdoekfbkpaeaaGreatDoor
open Go.RowKit

theorem nod_kept {w : World} {b : Nat} {a1 a2 a3 a4 : Value} (h : w.heap[b]? = some (.cells #[a1, a2, a3, a4] 40 (0, 0))) (v : Value) : (w.setCell ⟨b, 2, none⟩ v).heap[b]? = some (.cells #[a1, a2, v, a4] 40 (0, 0)) := heap_set_cell (o := 2) h v
theorem own_cell {w : World} {b base e K n : Nat} {v : Value} {xs : List Value} (h : w.ownsRow base e K v n xs) (hb : b < base) (u : Value) (o : Nat) : (w.setCell ⟨b, o, none⟩ u).ownsRow base e K v n xs :=
  h.kept (⟨rfl, rfl, rfl, by simp, fun k _ hne => Below.heap_setCell _ _ _ _ (fun e => hne (by rw [e]))⟩ : w.grownBy (w.setCell ⟨b, o, none⟩ u) (some b)) (by
    rcases h.2 with ⟨h, _⟩ | ⟨g, cap, cur, h, hge, _⟩
    · rw [h]; exact .inl rfl
    · rw [h]; refine .inr ?_; simp [Value.ownBlock]; omega)

theorem own_block2 {w w' : World} {B e K n : Nat} {v : Value} {xs : List Value} (h : w.ownsRow B e K v n xs) (hk : ∀ g, v.ownBlock = some g → w'.heap[g]? = w.heap[g]?) : w'.ownsRow B e K v n xs :=
  ⟨h.1, h.2.imp id fun ⟨g, cap, cur, h1, h2, h3, h4⟩ => ⟨g, cap, cur, h1, h2, (hk g (by rw [h1]; rfl)).trans h3, h4⟩⟩
theorem fold_take {α : Type} (f : List Snp → α → List Snp) (o : List Snp) (l : List α) {k : Nat} (h : k < l.length) : (l.take (k + 1)).foldl f o = f ((l.take k).foldl f o) l[k] := by
  rw [List.take_succ_eq_append_getElem h, List.foldl_append]; rfl

/-- Between two rounds of file. -/
def FileI (w w2 : World) (lv tv : Value) (o : List Snp) (ps : List (List UInt8)) (v i : Value) (wr : World) : Prop :=
  ∃ (k : Nat) (o' : List Snp) (la' : Option Addr) (lc' : Nat) (pa : Option Addr) (pc : Nat), k ≤ ps.length ∧ i = .int .i64 k ∧ v = .slice la' o'.length lc' ∧ Hid (OGot w wr lv o (.slice la' o'.length lc') o') ∧ Hid (o' = (ps.take k).foldl (fun o s => putN o (pieceN s)) o) ∧ o'.length ≤ o.length + k ∧
      wr.heap[w.heap.size + 1]? = some (.cells #[.int .i64 2, .string ⟨#[]⟩, .slice pa k pc, .slice none 0 0] 40 (0, 0)) ∧ Hid (wr.ownsRow (w.heap.size + 2) 65 2 (.slice pa k pc) k (((ps.take k).map partN).flatMap prtC)) ∧ Hid (wr.ownsRow (w2.heap.size + 1) 9 1 tv ps.length (ps.map S)) ∧ Hid (Below w.heap.size w wr)

set_option maxHeartbeats 8000000 in
set_option maxRecDepth 100000 in
theorem rfile12_walk (x k y z : Nat) (lv : Value) (o : List Snp) (data : List UInt8) (w : World) (hf : FitC x k z) (hpk : 2 ^ k = y) (hl : SnpRow w lv o) (hcnt : o.length ≤ 900000) (hd : data.length ≤ 32768) (hps : (piecesC x k z data).length ≤ 1024) :
    Calls Tryz.prog 51 #[PrmV x y z, lv, S data] w fun e w' => ∃ v', e = .returned (.tuple #[v', S (keyN (fileN (piecesC x k z data)))]) ∧ OGot w w' lv o v' (fileO o (piecesC x k z data)) ∧ Below w.heap.size w w' := by
  obtain ⟨i0, hi, hz0, hz1, hz2⟩ := info_parts infoPrt
  have HL := Lib.hid hl
  obtain ⟨la, lc, rfl, -⟩ := hl
  obtain ⟨w1, hw1, hb1, hp1, hs1⟩ : ∃ w1, w1 = w.alloc (.cells #[.int .i64 (x : Nat), .int .i64 (y : Nat), .int .i64 (z : Nat)] 23) ∧ Below w.heap.size w w1 ∧ w1.heap[w.heap.size]? = some (.cells #[.int .i64 (x : Nat), .int .i64 (y : Nat), .int .i64 (z : Nat)] 23 (0, 0)) ∧ w1.heap.size = w.heap.size + 1 :=
    ⟨_, rfl, (Below.refl _ _).alloc (Nat.le_refl _) _, heap_alloc_new _ _, by simp⟩
  obtain ⟨w2, hw2, hb2, hn2, hs2⟩ : ∃ w2, w2 = w1.alloc (.cells #[.int .i64 2, .string ⟨#[]⟩, .slice none 0 0, .slice none 0 0] 40) ∧ Below w1.heap.size w1 w2 ∧ w2.heap[w.heap.size + 1]? = some (.cells #[.int .i64 2, .string ⟨#[]⟩, .slice none 0 0, .slice none 0 0] 40 (0, 0)) ∧ w2.heap.size = w.heap.size + 2 :=
    ⟨_, rfl, (Below.refl _ _).alloc (Nat.le_refl _) _, by rw [← hs1]; exact heap_alloc_new _ _, by rw [World.size_alloc, hs1]⟩
  have hp2 := (hb2.block _ (heap_lt hp1)).trans hp1
  have c0 := heap_cell hp2 (j := 0) (v := .int .i64 (x : Nat)) rfl
  have c1 := heap_cell hp2 (j := 1) (v := .int .i64 (y : Nat)) rfl
  have c2 := heap_cell hp2 (j := 2) (v := .int .i64 (z : Nat)) rfl
  have CP := r07pieces_walk x k y z data w2 hf hpk (by omega)
  have HEACH := Lib.hid (piecesC_each (s := data) hf)
  have HFLAT := Lib.hid (piecesC_flat (s := data) hf)
  have HPS := Lib.hid hps
  obtain ⟨ps, hpse⟩ : ∃ ps, piecesC x k z data = ps := ⟨_, rfl⟩
  rw [hpse] at CP HEACH HFLAT HPS
  rw [hpse]
  have HB2 := Lib.hid (below_chain hb1 hb2 hb1.size)
  have HN2 := Lib.hid hn2
  clear hpse hps hp2 hp1 hn2 hf hpk
  go_enter Tryz.func51, Tryz.ntmps51
  go_upto_region 1 with fail
  rw [← hw1]
  clear hw1
  go_upto_region 2 with fail
  rw [← hw2]
  clear hw2
  go_wp2_with fail
  refine CP.mono ?_
  rintro e w3 ⟨tv, rfl, htr, hb3⟩
  obtain ⟨ta, tc, rfl⟩ : ∃ ta tc, tv = .slice ta ps.length tc := by
    rcases htr.2 with ⟨h, hn⟩ | ⟨g, cap, _, h, _⟩
    · exact ⟨none, 0, by rw [h, hn]⟩
    · exact ⟨_, _, h⟩
  have HTR := Lib.hid htr
  have HB3 := Lib.hid (below_chain HB2.out hb3 HB2.out.size)
  have HS3 := Lib.hid (show w.heap.size + 2 ≤ w3.heap.size by rw [← hs2]; exact hb3.size)
  have HN3 := Lib.hid ((hb3.block _ (heap_lt HN2.out)).trans HN2.out)
  have HL3 := Lib.hid (HL.out.below HB3.out)
  have HS2 := Lib.hid hs2
  have hpl := HPS.out
  clear CP c0 c1 c2 hb1 hb2 hb3 htr HN2 hs1 hs2
  go_wp2
  go_loopw [1, 10, 11] (fun v i _ wr => FileI w w2 (.slice la o.length lc) (.slice ta ps.length tc) o ps v i wr) (fun _ i _ _ => ps.length - (intOf i).toNat)
  case atStart => exact ⟨0, o, la, lc, none, 0, Nat.zero_le _, rfl, rfl, Lib.hid (.inl ⟨rfl, rfl⟩), Lib.hid rfl, by omega, HN3.out, Lib.hid (World.ownsRow_nil _ _ _ _), HTR, HB3⟩
  case round =>
    obtain ⟨k, o', la', lc', pa, pc, hk, rfl, rfl, HLR, HO, hol, hbx, HPR, HTW, HB⟩ := hrel
    clear HTR HL3 HN3 HB3
    obtain ⟨⟨z0, z1, z2, z3⟩, ⟨y0, y1, y2, y3⟩, ⟨x0, x1, x2, x3⟩⟩ := box4 hbx
    have HLW := Lib.hid (HLR.out.row HL.out HB.out)
    by_cases h1 : k < ps.length
    · have h1' : (k : Int) < (ps.length : Int) := by omega
      obtain ⟨_, _, hv, _, _, hx⟩ := StrRow.of_owns HTW.out
      cases hv
      rcases hx with hx | ⟨g, o2, rfl, hx⟩
      · exfalso; rw [hx] at h1; simp at h1
      have hc1 := str_cell hx h1
      have HFT := Lib.hid (show (ps.take (k + 1)).foldl (fun o s => putN o (pieceN s)) o = putN o' (pieceN ps[k]) by rw [fold_take _ _ _ h1, HO.out])
      have HPT := Lib.hid (show ((ps.take (k + 1)).map partN).flatMap prtC = ((ps.take k).map partN).flatMap prtC ++ [S (keyN (pieceN ps[k])), .int .i64 (ps[k].length : Nat)] by rw [List.take_succ_eq_append_getElem h1, List.map_append, List.flatMap_append]; rfl)
      have hsl := (HEACH.out ps[k] (by simp)).2
      generalize ps[k] = s at *
      have CQ : Calls Tryz.prog 52 #[.slice la' o'.length lc', .agg #[.int .i64 1, S s, .slice none 0 0, .slice none 0 0]] wr _ := rput12b_walk (.slice la' o'.length lc') (.slice none 0 0) (.slice none 0 0) o' (pieceN s) wr HLW.out ⟨Row.nil _ _, Row.nil _ _⟩ (by omega) (by simp; omega) (by simp) (by simp) (by simp)
      clear hx
      go_wp2_with fail
      refine CQ.mono ?_
      rintro e w4 ⟨v4, rfl, hr4, hg4, hb4⟩
      have HL4 := Lib.hid (show (putN o' (pieceN s)).length ≤ o'.length + 1 from addO_len _ _)
      change SnpRow w4 v4 (putN o' (pieceN s)) at hr4
      change OGot wr w4 _ o' v4 (putN o' (pieceN s)) at hg4
      generalize putN o' (pieceN s) = o4 at *
      generalize keyN (pieceN s) = kk at *
      obtain ⟨qa, qc, rfl⟩ := row_slice hr4
      obtain ⟨w5, hw5, HR5, hbx5, HPR5, HTR5, HB5, hc5⟩ : ∃ w5 : World, w5 = { w4 with drawn := w4.drawn + 1 } ∧ Hid (OGot w w5 (.slice la o.length lc) o (.slice qa o4.length qc) o4) ∧ w5.heap[w.heap.size + 1]? = some (.cells #[.int .i64 2, .string ⟨#[]⟩, .slice pa k pc, .slice none 0 0] 40 (0, 0)) ∧ Hid (w5.ownsRow (w.heap.size + 2) 65 2 (.slice pa k pc) k (((ps.take k).map partN).flatMap prtC)) ∧ Hid (w5.ownsRow (w2.heap.size + 1) 9 1 (.slice (some ⟨g, o2, none⟩) ps.length tc) ps.length (ps.map S)) ∧ Hid (Below w.heap.size w w5) ∧ w5.cell? ⟨g, o2 + k, none⟩ = some (S s) := by
        have hd : Below wr.heap.size wr { w4 with drawn := w4.drawn + 1 } := hb4.trans ⟨rfl, rfl, rfl, Nat.le_refl _, fun _ _ => rfl⟩
        exact ⟨_, rfl, Lib.hid ((HLR.out.trans hg4 hb4 HB.out.size).below ⟨rfl, rfl, rfl, Nat.le_refl _, fun _ _ => rfl⟩), (hd.block _ (heap_lt hbx)).trans hbx, Lib.hid (own_on HPR.out hd), Lib.hid (own_on HTW.out hd), Lib.hid (below_chain HB.out hd HB.out.size), cell_below hd hc1⟩
      clear CQ hr4 hg4 hb4 z0 z1 z2 z3 y0 y1 y2 y3 x0 x1 x2 x3 hbx hc1
      go_upto_region 8 with fail
      obtain ⟨⟨z0, z1, z2, z3⟩, ⟨y0, y1, y2, y3⟩, ⟨x0, x1, x2, x3⟩⟩ := box4 hbx5
      obtain ⟨⟨q0, q1, q2, q3⟩, -, -⟩ := box4 ((Below.heap_alloc w5 (.cells #[S kk, .int .i64 s.length] 65) _ (heap_lt hbx5)).trans hbx5)
      have HSL := Lib.hid (show w.heap.size + 2 ≤ w5.heap.size from by have := heap_lt hbx5; omega)
      have HOA := Lib.hid (HPR5.out.alloc (.cells #[S kk, .int .i64 s.length] 65))
      have HNC := Lib.hid (new_cells w5 (S kk) (.int .i64 s.length) 65)
      have HFIN := Lib.hid (fun (w7 : World) (g' cap' : Nat) (hown' : w7.ownsRow (w.heap.size + 2) 65 2 (.slice (some ⟨g', 0, none⟩) (k + 1) cap') (k + 1) (((ps.take k).map partN).flatMap prtC ++ [S kk, .int .i64 s.length])) (hgrow : (w5.alloc (.cells #[S kk, .int .i64 s.length] 65)).grownBy w7 (Value.slice pa k pc).ownBlock) =>
        show Hid (w7.heap[w.heap.size + 1]? = some (.cells #[.int .i64 2, .string ⟨#[]⟩, .slice pa k pc, .slice none 0 0] 40 (0, 0))) ∧ Hid (FileI w w2 (.slice la o.length lc) (.slice (some ⟨g, o2, none⟩) ps.length tc) o ps (.slice qa o4.length qc) (.int .i64 ((k : Int) + 1)) (w7.setCell ⟨w.heap.size + 1, 2, none⟩ (.slice (some ⟨g', 0, none⟩) (k + 1) cap'))) from by
        have hne : ∀ j, (Value.slice pa k pc).ownBlock = some j → w.heap.size + 2 ≤ j := fun j hj => (HOA.out.lt j hj).1
        have hold : ∀ j, j < w5.heap.size → some j ≠ (Value.slice pa k pc).ownBlock → w7.heap[j]? = w5.heap[j]? := fun j hj hn => (hgrow.block j (by rw [World.size_alloc]; omega) hn).trans (Below.heap_alloc _ _ _ hj)
        have hb7 : w7.heap[w.heap.size + 1]? = some (.cells #[.int .i64 2, .string ⟨#[]⟩, .slice pa k pc, .slice none 0 0] 40 (0, 0)) := (hold _ (heap_lt hbx5) (fun e => by have := hne _ e.symm; omega)).trans hbx5
        have hB7 : Below w.heap.size w w7 := (HB5.out.alloc HB5.out.size _).grown hgrow (by rw [World.size_alloc]; have := HB5.out.size; omega) (fun j hj => by have := hne j hj; omega)
        have hg7 : OGot w w7 (.slice la o.length lc) o (.slice qa o4.length qc) o4 := by
          have h5 := HR5.out
          rcases HPR5.out.2 with ⟨h, _⟩ | ⟨gg, cap, cur, h, _, hgg, _⟩
          · refine h5.imp id fun h5 => ?_
            exact own_block2 h5 fun j hj => hold j (h5.lt j hj).2 (by rw [h]; simp [Value.ownBlock])
          · exact h5.type hgg (by decide) (fun j hj hlt => hold j hlt (by rw [h]; simp [Value.ownBlock]; exact hj))
        have ht7 : w7.ownsRow (w2.heap.size + 1) 9 1 (.slice (some ⟨g, o2, none⟩) ps.length tc) ps.length (ps.map S) := by
          have h5 := HTR5.out
          rcases HPR5.out.2 with ⟨h, _⟩ | ⟨gg, cap, cur, h, _, hgg, _⟩
          · exact own_block2 h5 fun j hj => hold j (h5.lt j hj).2 (by rw [h]; simp [Value.ownBlock])
          · exact own_type h5 hgg (by decide) (fun j hj hlt => hold j hlt (by rw [h]; simp [Value.ownBlock]; exact hj))
        refine ⟨Lib.hid hb7, Lib.hid ⟨k + 1, o4, qa, qc, some ⟨g', 0, none⟩, cap', by omega, by go_num, rfl, Lib.hid (hg7.type hb7 (by decide) (fun j hj _ => Below.heap_setCell _ _ _ _ hj)), Lib.hid HFT.out.symm, by have := HL4.out; omega, nod_kept hb7 _, Lib.hid (own_cell (by rw [HPT.out]; exact hown') (by omega) _ _), Lib.hid (own_cell ht7 (by have := HS2.out; omega) _ _), Lib.hid (hB7.setCell (p := ⟨w.heap.size + 1, 2, none⟩) (by show w.heap.size ≤ w.heap.size + 1; omega) _)⟩⟩)
      (refine wp_region_held (S := fun _ => True) (by kernel_rfl) ?_)
      rw [← hw5]
      clear hw5
      (refine wpAnyH_take (i := 0) (v := ?_) rfl (by kernel_rfl) (by kernel_rfl) (by kernel_rfl) (fun _ _ _ h => h) (Or.inl ⟨by rfl, ?_⟩) (by exact trivial) ?_; rotate_left; (intro w9 hS9; skip; go_simp; try with_reducible rfl))
      (refine wpAnyH_take (i := 2) (v := ?_) rfl (by kernel_rfl) (by kernel_rfl) (by kernel_rfl) (fun _ _ _ h => h) (Or.inl ⟨by rfl, ?_⟩) (by exact trivial) ?_; rotate_left; (intro w9 hS9; skip; go_simp; try with_reducible rfl))
      (refine wpAnyH_take (i := 3) (v := ?_) rfl (by kernel_rfl) (by kernel_rfl) (by kernel_rfl) (fun _ _ _ h => h) (Or.inl ⟨by rfl, ?_⟩) (by exact trivial) ?_; rotate_left; (intro w9 hS9; skip; go_simp; try with_reducible rfl))
      (refine wpAnyH_take (i := 4) (v := ?_) rfl (by kernel_rfl) (by kernel_rfl) (by kernel_rfl) (fun _ _ _ h => h) (Or.inl ⟨by rfl, ?_⟩) (by exact trivial) ?_; rotate_left; (intro w9 hS9; skip; go_simp; try with_reducible rfl))
      (refine wpAnyH_take (i := 5) (v := ?_) rfl (by kernel_rfl) (by kernel_rfl) (by kernel_rfl) (fun _ _ _ h => h) (Or.inl ⟨by rfl, ?_⟩) (by exact trivial) ?_; rotate_left; (intro w9 hS9; skip; go_simp; try with_reducible rfl))
      refine wpAnyH_two (i := 1) (j := 6) (by kernel_rfl) rfl rfl (fun K hK => ?_) (fun K hK => ?_)
      · (go_simp; refine hK _ _ trivial ?_; clear hK K)
        refine wpAnyH_one (i := 6) (by kernel_rfl) rfl (fun K hK => ?_)
        (go_simp; refine hK _ _ trivial ?_; clear hK K)
        (refine wpAnyH_take (i := 7) (v := ?_) rfl (by kernel_rfl) (by kernel_rfl) (by kernel_rfl) (fun _ _ _ h => h) (Or.inl ⟨by rfl, ?_⟩) (by exact trivial) ?_; rotate_left; (intro w9 hS9; skip; go_simp; try with_reducible rfl))
        (refine wpAnyH_take (i := 8) (v := ?_) rfl (by kernel_rfl) (by kernel_rfl) (by kernel_rfl) (fun _ _ _ h => h) (Or.inl ⟨by rfl, ?_⟩) (by exact trivial) ?_; rotate_left; (intro w9 hS9; skip; go_simp; try with_reducible rfl))
        (refine wpAnyH_one (i := 9) (by kernel_rfl) rfl (fun K hK => ?_); go_simp; refine hK _ _ (trivial) ?_; clear hK K)
        refine wpAnyH_one (i := 10) (by kernel_rfl) rfl (fun K hK => ?_)
        rw [if_pos (by rfl)]
        refine wp_append_own _ (.tmp 33) (.tmp 41) 37 rfl (w.heap.size + 2) 65 i0 (.agg #[.string ⟨#[]⟩, .int .i64 0]) 2 24 Tryz.underlying37 hi hz0 hz1 hz2 rfl (by decide) (.slice pa k pc) k (((ps.take k).map partN).flatMap prtC) rfl HOA.out ⟨w5.heap.size, 0, none⟩ 1 1 [S kk, .int .i64 s.length] rfl rfl HNC.out (by intro u hu; simp at hu; rcases hu with rfl | rfl <;> rfl) (by unfold maxLen; omega) (by omega) (by simp; have := HB5.out.size; have := HSL.out; omega) ?_
        intro v' w7 hown' hgrow _
        obtain ⟨g', cap', rfl⟩ := ownsRow_succ hown'
        obtain ⟨HBX7, HEND⟩ := HFIN.out w7 g' cap' hown' hgrow
        obtain ⟨⟨z0, z1, z2, z3⟩, ⟨y0, y1, y2, y3⟩, ⟨x0, x1, x2, x3⟩⟩ := box4 HBX7.out
        clear hown' hgrow
        refine hK _ _ trivial ?_
        clear hK K
        (refine wpAnyH_take (i := 11) (v := ?_) rfl (by kernel_rfl) (by kernel_rfl) (by kernel_rfl) (fun _ _ _ h => h) (Or.inl ⟨by rfl, ?_⟩) (by exact trivial) ?_; rotate_left; (intro w9 hS9; skip; go_simp; try with_reducible rfl))
        refine wpAnyH_one (i := 12) (by kernel_rfl) rfl (fun K hK => ?_)
        (go_simp; refine hK _ _ trivial ?_; clear hK K)
        (refine wpAnyH_done (by kernel_rfl) ?_ _)
        go_wp2
        go_roundw
        case rel => exact HEND.out
        case measure => simp [intOf]; omega
      · (go_simp; refine hK _ _ trivial ?_; clear hK K)
        (refine wpAnyH_take (i := 7) (v := ?_) rfl (by kernel_rfl) (by kernel_rfl) (by kernel_rfl) (fun _ _ _ h => h) (Or.inl ⟨by rfl, ?_⟩) (by exact trivial) ?_; rotate_left; (intro w9 hS9; skip; go_simp; try with_reducible rfl))
        (refine wpAnyH_take (i := 8) (v := ?_) rfl (by kernel_rfl) (by kernel_rfl) (by kernel_rfl) (fun _ _ _ h => h) (Or.inl ⟨by rfl, ?_⟩) (by exact trivial) ?_; rotate_left; (intro w9 hS9; skip; go_simp; try with_reducible rfl))
        refine wpAnyH_two (i := 1) (j := 9) (by kernel_rfl) rfl rfl (fun K hK => ?_) (fun K hK => ?_)
        · (go_simp; refine hK _ _ trivial ?_; clear hK K)
          (refine wpAnyH_one (i := 9) (by kernel_rfl) rfl (fun K hK => ?_); go_simp; refine hK _ _ (trivial) ?_; clear hK K)
          refine wpAnyH_one (i := 10) (by kernel_rfl) rfl (fun K hK => ?_)
          rw [if_pos (by rfl)]
          refine wp_append_own _ (.tmp 33) (.tmp 41) 37 rfl (w.heap.size + 2) 65 i0 (.agg #[.string ⟨#[]⟩, .int .i64 0]) 2 24 Tryz.underlying37 hi hz0 hz1 hz2 rfl (by decide) (.slice pa k pc) k (((ps.take k).map partN).flatMap prtC) rfl HOA.out ⟨w5.heap.size, 0, none⟩ 1 1 [S kk, .int .i64 s.length] rfl rfl HNC.out (by intro u hu; simp at hu; rcases hu with rfl | rfl <;> rfl) (by unfold maxLen; omega) (by omega) (by simp; have := HB5.out.size; have := HSL.out; omega) ?_
          intro v' w7 hown' hgrow _
          obtain ⟨g', cap', rfl⟩ := ownsRow_succ hown'
          obtain ⟨HBX7, HEND⟩ := HFIN.out w7 g' cap' hown' hgrow
          obtain ⟨⟨z0, z1, z2, z3⟩, ⟨y0, y1, y2, y3⟩, ⟨x0, x1, x2, x3⟩⟩ := box4 HBX7.out
          clear hown' hgrow
          refine hK _ _ trivial ?_
          clear hK K
          (refine wpAnyH_take (i := 11) (v := ?_) rfl (by kernel_rfl) (by kernel_rfl) (by kernel_rfl) (fun _ _ _ h => h) (Or.inl ⟨by rfl, ?_⟩) (by exact trivial) ?_; rotate_left; (intro w9 hS9; skip; go_simp; try with_reducible rfl))
          refine wpAnyH_one (i := 12) (by kernel_rfl) rfl (fun K hK => ?_)
          (go_simp; refine hK _ _ trivial ?_; clear hK K)
          (refine wpAnyH_done (by kernel_rfl) ?_ _)
          go_wp2
          go_roundw
          case rel => exact HEND.out
          case measure => simp [intOf]; omega
        · (go_simp; refine hK _ _ trivial ?_; clear hK K)
          refine wpAnyH_one (i := 1) (by kernel_rfl) rfl (fun K hK => ?_)
          (go_simp; refine hK _ _ trivial ?_; clear hK K)
          refine wpAnyH_one (i := 10) (by kernel_rfl) rfl (fun K hK => ?_)
          rw [if_pos (by rfl)]
          refine wp_append_own _ (.tmp 33) (.tmp 41) 37 rfl (w.heap.size + 2) 65 i0 (.agg #[.string ⟨#[]⟩, .int .i64 0]) 2 24 Tryz.underlying37 hi hz0 hz1 hz2 rfl (by decide) (.slice pa k pc) k (((ps.take k).map partN).flatMap prtC) rfl HOA.out ⟨w5.heap.size, 0, none⟩ 1 1 [S kk, .int .i64 s.length] rfl rfl HNC.out (by intro u hu; simp at hu; rcases hu with rfl | rfl <;> rfl) (by unfold maxLen; omega) (by omega) (by simp; have := HB5.out.size; have := HSL.out; omega) ?_
          intro v' w7 hown' hgrow _
          obtain ⟨g', cap', rfl⟩ := ownsRow_succ hown'
          obtain ⟨HBX7, HEND⟩ := HFIN.out w7 g' cap' hown' hgrow
          obtain ⟨⟨z0, z1, z2, z3⟩, ⟨y0, y1, y2, y3⟩, ⟨x0, x1, x2, x3⟩⟩ := box4 HBX7.out
          clear hown' hgrow
          refine hK _ _ trivial ?_
          clear hK K
          (refine wpAnyH_take (i := 11) (v := ?_) rfl (by kernel_rfl) (by kernel_rfl) (by kernel_rfl) (fun _ _ _ h => h) (Or.inl ⟨by rfl, ?_⟩) (by exact trivial) ?_; rotate_left; (intro w9 hS9; skip; go_simp; try with_reducible rfl))
          refine wpAnyH_one (i := 12) (by kernel_rfl) rfl (fun K hK => ?_)
          (go_simp; refine hK _ _ trivial ?_; clear hK K)
          (refine wpAnyH_done (by kernel_rfl) ?_ _)
          go_wp2
          go_roundw
          case rel => exact HEND.out
          case measure => simp [intOf]; omega
    · have h1' : ¬ (k : Int) < (ps.length : Int) := by omega
      obtain rfl : k = ps.length := by omega
      have hprow : NodRow wr (fileN ps) (.slice pa ps.length pc) (.slice none 0 0) := by
        have h := HPR.out
        rw [List.take_of_length_le (Nat.le_refl _)] at h
        refine ⟨Row.of_ownsK (f := prtC) (K := 2) (base := w.heap.size + 2) (e := 65) (fun _ => rfl) ?_, Row.nil _ _⟩
        show wr.ownsRow _ _ _ _ (ps.map partN).length _
        rw [List.length_map]; exact h
      have CQ : Calls Tryz.prog 52 #[.slice la' o'.length lc', .agg #[.int .i64 2, .string ⟨#[]⟩, .slice pa ps.length pc, .slice none 0 0]] wr _ := rput12b_walk (.slice la' o'.length lc') (.slice pa ps.length pc) (.slice none 0 0) o' (fileN ps) wr HLW.out hprow (by omega) (by simp [fileN]) (by simp [fileN]; omega) (by simp [fileN]) (by simp [fileN])
      have HE := Lib.hid (show addO o' (keyN (fileN ps), writeN (fileN ps)) = fileO o ps by rw [HO.out, List.take_of_length_le (Nat.le_refl _)]; rfl)
      clear hprow
      go_wp2_with fail
      refine CQ.mono ?_
      rintro e w4 ⟨v4, rfl, hr4, hg4, hb4⟩
      have HR4 := Lib.hid (HLR.out.trans hg4 hb4 HB.out.size)
      have HB4 := Lib.hid (below_chain HB.out hb4 HB.out.size)
      clear hr4 hg4 hb4 CQ
      go_wp2
      go_ret2
      exact ⟨_, rfl, by rw [← HE.out]; exact HR4.out, HB4.out⟩
end Go.Proofs.YtbmdoekfbkpaeaaGreatDoor
