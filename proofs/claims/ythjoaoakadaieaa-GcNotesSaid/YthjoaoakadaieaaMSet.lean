/- The machine's set: a file in its place. -/
import Derived.Test.YthjoaoakadaieaaMach
import Derived.Test.YthjoaoakadaieaaSorted
import Derived.Laws.OwnMore
namespace Go.Proofs.Ythjoaoakadaieaa
open Go.RowKit

theorem flat_set3 : ∀ {l : List DF} {f : DF} {k : Nat}, k < l.length → (((l.flatMap dfC).set (k * 3) (S f.name)).set (k * 3 + 1) (S f.data)).set (k * 3 + 2) f.ov = (l.take k ++ f :: l.drop (k + 1)).flatMap dfC
  | [], _, _, h => by simp at h
  | x :: xs, f, 0, _ => by simp
  | x :: xs, f, k + 1, h => by
    have ih := flat_set3 (l := xs) (f := f) (k := k) (by simpa using h)
    rw [List.take_succ_cons, List.drop_succ_cons, List.cons_append, List.flatMap_cons, List.flatMap_cons, ← ih]
    have e1 : (k + 1) * 3 = k * 3 + 3 := by omega
    rw [e1]
    simp only [dfC, List.cons_append, List.nil_append, List.set_cons_succ, show k * 3 + 3 + 1 = (k * 3 + 1) + 3 by omega, show k * 3 + 3 + 2 = (k * 3 + 2) + 3 by omega]
theorem own_store {w : World} {B g cap n : Nat} {l : List DF} {f : DF} {k : Nat} (hn : n = l.length) (h : OwnF w B (.slice (some ⟨g, 0, none⟩) n cap) l) (hk : k < l.length) :
    OwnF (((w.setCell ⟨g, k * 3, none⟩ (S f.name)).setCell ⟨g, k * 3 + 1, none⟩ (S f.data)).setCell ⟨g, k * 3 + 2, none⟩ f.ov) B (.slice (some ⟨g, 0, none⟩) n cap) (l.take k ++ f :: l.drop (k + 1)) := by
  subst hn
  have hl : (l.take k ++ f :: l.drop (k + 1)).length = l.length := by simp; omega
  have h1 := (World.ownsRow.stored (World.ownsRow.stored (World.ownsRow.stored h (k * 3) (S f.name)).1 (k * 3 + 1) (S f.data)).1 (k * 3 + 2) f.ov).1
  rw [flat_set3 hk] at h1
  unfold OwnF
  rw [hl]; exact h1
theorem below_drewB (B : Nat) (w : World) : Below B w w.drew := ⟨rfl, rfl, rfl, Nat.le_refl _, fun _ _ => rfl⟩
theorem below_setC {B : Nat} {w w' : World} (h : Below B w w') {g : Nat} (hg : B ≤ g) (o : Nat) (u : Value) : Below B w (w'.setCell ⟨g, o, none⟩ u) := h.setCell (p := ⟨g, o, none⟩) hg u

set_option maxHeartbeats 4000000 in
set_option maxRecDepth 100000 in
theorem mset_walk (B b : Nat) (v : Value) (off : Bool) (fuse : Int) (l : List DF) (f : DF) (w : World) (hm : MBox w b v off fuse) (hown : OwnF w B v l) (hB : B ≤ w.heap.size) (hb : b < B) (hone : ∀ x ∈ l, x.ov.oneCell' = true) (hof : ∃ a n c, f.ov = .slice a n c) (hcnt : l.length ≤ 1000000) (hup : upS (l.map DF.name)) :
    Calls Try.prog 50 #[.pointer (some ⟨b, 0, none⟩), DFV f] w fun e w' => e = .returned (.tuple #[]) ∧ ∃ v', MBox w' b v' off fuse ∧ OwnF w' B v' (withK DF.name l f) ∧ Alt B b w w' ∧ (∀ k, k < w.heap.size → v.ownBlock ≠ some k → k ≠ b → w'.heap[k]? = w.heap[k]?) := by
  have hBx : Below w.heap.size w (w.alloc (.cells #[S f.name, S f.data, f.ov] 50)) := (Below.refl _ _).alloc (Nat.le_refl _) _
  have hr1 := Row.of_ownsK dfC_len hown
  have hbw : b < w.heap.size := by omega
  have hm1 := heap_later hm hBx hbw
  have C := pmat_walk b v off fuse l f.name _ hm1 (hr1.below hBx) hcnt hup
  have HWK := Lib.hid (withK_up (f := f) hup)
  have HPOS := Lib.hid (fun h => pos_lt (n := f.name) hup h)
  have HPL := Lib.hid (show posL (l.map DF.name) f.name ≤ l.length by have := posL_le (l.map DF.name) f.name; simpa using this)
  generalize withK DF.name l f = wl at *
  obtain ⟨k, hk⟩ : ∃ k, k = posL (l.map DF.name) f.name := ⟨_, rfl⟩
  rw [← hk] at C HWK HPOS HPL
  clear hk hup
  obtain ⟨nm, dt, ov, os⟩ := f
  simp only at C HWK HPOS hof hm1
  obtain ⟨oa, on, oc, rfl⟩ := hof
  have hd0 := cell_new w #[S nm, S dt, .slice oa on oc] 50 0 rfl
  have hd1 := cell_new w #[S nm, S dt, .slice oa on oc] 50 1 rfl
  have hd2 := cell_new w #[S nm, S dt, .slice oa on oc] 50 2 rfl
  have hownx := hown.alloc (.cells #[S nm, S dt, .slice oa on oc] 50)
  by_cases hin : nm ∈ l.map DF.name
  · have HW1 := Lib.hid (HWK.out.trans (by rw [if_pos hin]))
    obtain ⟨hk, hnm⟩ := HPOS.out hin
    rw [show decide (nm ∈ l.map DF.name) = true by simpa using hin] at C
    clear HWK HPOS hin hnm
    have hown2 := hown.2
    rcases hown2 with ⟨rfl, h0⟩ | ⟨g, cap, cur, rfl, hBg, hg, hnc, hcm, hcs, ht⟩
    · omega
    have hgl := heap_lt hg
    have hk' : (k : Int) < (l.length : Int) := by omega
    go_enter Try.func50, Try.ntmps50
    go_wp2_with fail
    refine C.mono ?_
    rintro e w1 ⟨rfl, hb1⟩
    have hx0 := cell_below hb1 hd0
    have hx1 := cell_below hb1 hd1
    have hx2 := cell_below hb1 hd2
    have hm2 := heap_later hm1 hb1 (by simp; omega)
    have hc0 := heap_cell hm2 (j := 0) (v := .slice (some ⟨g, 0, none⟩) l.length cap) rfl
    have hg2 := heap_later (heap_later hg hBx hgl) hb1 (by simp; omega)
    have hf := heap_free hg2
    have hf0 := hf (k * 3)
    have hf1 := hf (k * 3 + 1)
    have hf2 := hf (k * 3 + 2)
    obtain ⟨u0, hu0⟩ := heap_has hg2 (j := k * 3) (by omega)
    obtain ⟨u1, hu1⟩ := heap_has hg2 (j := k * 3 + 1) (by omega)
    obtain ⟨u2, hu2⟩ := heap_has hg2 (j := k * 3 + 2) (by omega)
    have hown3 : OwnF w1 B (.slice (some ⟨g, 0, none⟩) l.length cap) l := own_keep hownx (fun i h1 h2 => hb1.block i (by simpa using h2))
    have hal : Alt B b w w1 := (Alt.of_below (hBx.mono hB) hb).trans (Alt.of_below (hb1.mono (by simp; omega)) hb)
    clear hf C hd0 hd1 hd2 hownx hr1 hm hm1
    go_upto_region 3 with fail
    go_region_with (fail)
    all_goals
      have hfin := own_store (f := ⟨nm, dt, .slice oa on oc, os⟩) rfl hown3 hk
      have hal2 := ((hal.trans (Alt.of_below (below_setC (below_setC (below_setC (Below.refl B w1) hBg (k * 3) (S nm)) hBg (k * 3 + 1) (S dt)) hBg (k * 3 + 2) (.slice oa on oc)) hb)))
      have hm3 : MBox (((w1.setCell ⟨g, k * 3, none⟩ (S nm)).setCell ⟨g, k * 3 + 1, none⟩ (S dt)).setCell ⟨g, k * 3 + 2, none⟩ (.slice oa on oc)) b (.slice (some ⟨g, 0, none⟩) l.length cap) off fuse := ((below_setC (below_setC (below_setC (Below.refl (b + 1) w1) (show b + 1 ≤ g by omega) (k * 3) (S nm)) (show b + 1 ≤ g by omega) (k * 3 + 1) (S dt)) (show b + 1 ≤ g by omega) (k * 3 + 2) (.slice oa on oc)).block b (by omega)).trans hm2
      have HFIN := Lib.hid hfin
      have HAL := Lib.hid hal2
      have HM := Lib.hid hm3
      clear hfin hal2 hm3 hal hown3
      try go_wp2
      refine bodyPost_ret (results_none rfl _ _ _) rfl ?_
      refine ⟨rfl, _, HM.out, by rw [HW1.out]; exact HFIN.out, HAL.out.trans (Alt.of_below (below_drewB B _) hb), fun i hi hne _ => by
        have hig : i ≠ g := fun e => hne (by rw [e]; rfl)
        exact (((Below.heap_setCell _ _ _ _ hig).trans (Below.heap_setCell _ _ _ _ hig)).trans (Below.heap_setCell _ _ _ _ hig)).trans ((hb1.block i (by rw [World.size_alloc]; omega)).trans (Below.heap_alloc w _ i hi))⟩
  · have HW1 := Lib.hid (HWK.out.trans (by rw [if_neg hin]))
    rw [show decide (nm ∈ l.map DF.name) = false by simpa using hin] at C
    clear HWK HPOS hin
    have hownb := hown.lt
    obtain ⟨ya, yn, yc, rfl⟩ := own_slice hown
    go_enter Try.func50, Try.ntmps50
    go_wp2_with fail
    refine C.mono ?_
    rintro e w1 ⟨rfl, hb1⟩
    have hx0 := cell_below hb1 hd0
    have hx1 := cell_below hb1 hd1
    have hx2 := cell_below hb1 hd2
    have hm2 := heap_later hm1 hb1 (by simp; omega)
    have hc0 := heap_cell hm2 (j := 0) (v := .slice ya yn yc) rfl
    have hown3 : OwnF w1 B (.slice ya yn yc) l := own_keep hownx (fun i h1 h2 => hb1.block i (by simpa using h2))
    have hal : Alt B b w w1 := (Alt.of_below (hBx.mono hB) hb).trans (Alt.of_below (hb1.mono (by simp; omega)) hb)
    have hsz : w.heap.size + 1 ≤ w1.heap.size := by have := hb1.size; simpa using this
    have CI := fun (vb : Nat) (W : World) (h1 : OwnF W B (.slice ya yn yc) l) (h2 : B ≤ W.heap.size) (h3 : W.heap[vb]? = some (.cells [S nm, S dt, .slice oa on oc].toArray 50 (0, 0))) (h4 : (Value.slice ya yn yc).ownBlock ≠ some vb) => insDF_walkR B (.slice ya yn yc) l.length k vb (l.flatMap dfC) [S nm, S dt, .slice oa on oc] W h1 HPL.out h2 hcnt rfl h3 (df3_one rfl) (flat_oneK (fun x hx => df3_one (hone x hx))) h4
    have HCI := Lib.hid CI
    clear C hd0 hd1 hd2 hownx hr1 hm hm1 CI
    go_upto_region 4 with fail
    have HNE := Lib.hid (show (Value.slice ya yn yc).ownBlock ≠ some w1.heap.size from fun e => by have := (hown3.lt _ e).2; omega)
    have HBL := Lib.hid (show B ≤ w1.heap.size by omega)
    have hq0 := fun o => cell_old hc0 o
    have hq1 := fun o => cell_old hx0 o
    have hq2 := fun o => cell_old hx1 o
    have hq3 := fun o => cell_old hx2 o
    go_region_with (go_at_call 78; (with_reducible refine (HCI.out w1.heap.size _ ?_ ?_ ?_ ?_).mono ?_); (first | exact World.ownsRow.drew (World.ownsRow.alloc hown3 _) | exact World.ownsRow.alloc (World.ownsRow.drew hown3) _); (have := HBL.out; simp; omega); (exact heap_alloc_new _ _); (exact HNE.out); rintro e w4 ⟨v4, rfl, hown4, hb4, hrs4⟩; obtain ⟨va, vn, vc, rfl⟩ := own_slice hown4; (have hm4 : MBox w4 b (.slice ya yn yc) off fuse := (hb4.block b hb).trans ((Below.heap_alloc w1 _ b (by omega)).trans hm2)); have hc4 := heap_cell hm4 (j := 0) (v := .slice ya yn yc) rfl; have hf4 := heap_free hm4 0; (have hal4 : Alt B b w w4 := (hal.trans (Alt.of_below ((Below.refl B w1).alloc HBL.out (.cells #[S nm, S dt, .slice oa on oc] 50)) hb)).trans (Alt.of_below ⟨hb4.os, hb4.tape, hb4.output, hb4.size, hb4.block⟩ hb)))
    all_goals
      have hlen : (l.take k ++ ⟨nm, dt, .slice oa on oc, os⟩ :: l.drop k).length = l.length + 1 := by have := HPL.out; simp; omega
      have hfl : (l.take k ++ ⟨nm, dt, .slice oa on oc, os⟩ :: l.drop k).flatMap dfC = (l.flatMap dfC).take (k * 3) ++ ([S nm, S dt, .slice oa on oc] ++ (l.flatMap dfC).drop (k * 3)) := by
        rw [flat_take dfC_len, flat_drop dfC_len, List.flatMap_append, List.flatMap_cons]
      have HFIN := Lib.hid (show OwnF (w4.setCell ⟨b, 0, none⟩ (.slice va vn vc)) B (.slice va vn vc) (l.take k ++ ⟨nm, dt, .slice oa on oc, os⟩ :: l.drop k) by
        refine own_set ?_ hb
        rw [hlen, hfl]; exact hown4)
      have HM := Lib.hid (mbox_set hm4 (.slice va vn vc))
      have HAL := Lib.hid (hal4.setCell 0 (.slice va vn vc))
      clear hlen hfl hown4 hm4 hal4 hc4 hf4
      try go_wp2
      go_end0
      refine ⟨rfl, _, HM.out, by rw [HW1.out]; exact HFIN.out, HAL.out, fun i hi hne hib => by
        have hi1 : i < w1.heap.size := by omega
        exact (Below.heap_setCell _ _ _ _ hib).trans ((hrs4 i (Nat.lt_of_lt_of_le hi1 (by first | exact Nat.le_trans (Nat.le_succ _) (Nat.le_of_eq (World.size_alloc w1 _).symm) | omega)) hne).trans ((Below.heap_alloc w1 _ i hi1).trans ((hb1.block i (by rw [World.size_alloc]; omega)).trans (Below.heap_alloc w _ i hi))))⟩
end Go.Proofs.Ythjoaoakadaieaa
