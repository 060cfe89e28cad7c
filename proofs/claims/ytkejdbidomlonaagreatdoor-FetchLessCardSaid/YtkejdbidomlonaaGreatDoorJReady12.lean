/- Which trees can be built: the reference's small, Ready. Chapter 13's trees that are few. The reference's sums. The reference's words of a block. -/
import Derived.Test.YtkejdbidomlonaaGreatDoorJBuildPlain
import Derived.Test.YtkejdbidomlonaaGreatDoorRCdc
import Derived.Test.YtkejdbidomlonaaGreatDoorR10c
import Derived.Test.YtkejdbidomlonaaGreatDoorJR11b
import Derived.Test.YtkejdbidomlonaaGreatDoorJAs11
import Derived.Test.YtkejdbidomlonaaGreatDoorJPSha
import Derived.Test.YtkejdbidomlonaaGreatDoorJObjAt
namespace Go.Proofs.YtkejdbidomlonaaGreatDoor
open Go.RowKit

def fewC (x k z : Nat) (i : Itm) : Bool := decide ((piecesC x k z i.2.2.2).length ≤ 1024)
set_option maxHeartbeats 4000000 in
set_option maxRecDepth 100000 in
theorem rsmall12_walk (x k y z : Nat) (v : Value) (l : List Itm) (w : World) (hf : FitC x k z) (hpk : 2 ^ k = y) (hr : ItRow w v l) (hd : ∀ i ∈ l, i.2.2.2.length ≤ 1100000) (hlen : l.length ≤ 1100000) :
    Calls Tryz.prog 36 #[PrmV x y z, v] w fun e w' => e = .returned (.bool (l.all (fewC x k z))) ∧ Below w.heap.size w w' := by
  obtain ⟨w1, hw1, hb1, hc⟩ : ∃ w1, w1 = w.alloc (.cells #[.int .i64 (x : Nat), .int .i64 (y : Nat), .int .i64 (z : Nat)] 23) ∧ Below w.heap.size w w1 ∧ w1.heap[w.heap.size]? = some (.cells #[.int .i64 (x : Nat), .int .i64 (y : Nat), .int .i64 (z : Nat)] 23 (0, 0)) :=
    ⟨_, rfl, (Below.refl _ _).alloc (Nat.le_refl _) _, heap_alloc_new _ _⟩
  have HC := Lib.hid hc
  have HB1 := Lib.hid hb1
  have CP := fun (s : List UInt8) (W : World) (h : s.length ≤ 1100000) => r07pieces_walk x k y z s W hf hpk h
  obtain ⟨a, c, rfl, hcc, hm, hx⟩ := hr
  have HX := Lib.hid hx
  have HD := Lib.hid hd
  clear hx hf hpk hd hc hb1
  go_enter Tryz.func36, Tryz.ntmps36
  go_upto_region 1 with fail
  rw [← hw1]
  clear hw1
  go_wp2
  go_loopw [5] (fun i wr => ∃ j : Nat, j ≤ l.length ∧ i = .int .i64 j ∧ (l.take j).all (fewC x k z) = true ∧ Below w.heap.size w wr ∧ wr.heap[w.heap.size]? = some (.cells #[.int .i64 (x : Nat), .int .i64 (y : Nat), .int .i64 (z : Nat)] 23 (0, 0))) (fun i _ => l.length - (intOf i).toNat)
  case atStart => exact ⟨0, Nat.zero_le _, rfl, by simp, HB1.out, HC.out⟩
  case round =>
    obtain ⟨j, hj, rfl, hall, hB, hc⟩ := hrel
    have HALL := Lib.hid hall
    have HB := Lib.hid hB
    have HCW := Lib.hid hc
    clear hall
    by_cases h1 : j < l.length
    · have h1' : (j : Int) < (l.length : Int) := by omega
      have hx := HX.out
      rcases hx with hx | ⟨b, o, rfl, hx⟩
      · exfalso; rw [hx] at h1; simp at h1
      obtain ⟨-, -, -, m3⟩ := it_cells hx h1
      have e3 := LaterOf.cell (cell_below hB m3)
      have l0 := LaterOf.cell (heap_cell hc (j := 0) (v := .int .i64 (x : Nat)) rfl)
      have l1 := LaterOf.cell (heap_cell hc (j := 1) (v := .int .i64 (y : Nat)) rfl)
      have l2 := LaterOf.cell (heap_cell hc (j := 2) (v := .int .i64 (z : Nat)) rfl)
      have hdl := HD.out l[j] (List.getElem_mem h1)
      have HST := Lib.hid (fun (h : fewC x k z l[j] = true) => (show (l.take (j + 1)).all (fewC x k z) = true by
        rw [List.take_succ_eq_append_getElem h1, List.all_append, HALL.out]; simp [h]))
      have HBAD := Lib.hid (fun (h : fewC x k z l[j] = false) => (show l.all (fewC x k z) = false by
        rw [List.all_eq_false]; exact ⟨l[j], by simp, by simp [h]⟩))
      clear hx m3 hB hc
      generalize l[j] = it at *
      obtain ⟨p, isd, ex, data⟩ := it
      simp only at e3 hdl
      have CP := fun W => CP data W hdl
      have HFE := Lib.hid (show fewC x k z (p, isd, ex, data) = decide ((piecesC x k z data).length ≤ 1024) from rfl)
      generalize piecesC x k z data = ps at *
      go_wp2
      (refine wp_held (by kernel_rfl) ?_; intro lw)
      (refine wpAnyH_take (i := 0) (v := ?_) rfl (by kernel_rfl) (by kernel_rfl) (by kernel_rfl) (fun _ _ _ h => h) (Or.inl ⟨by rfl, ?_⟩) ⟨_, rfl⟩ ?_; rotate_left; (intro w9 hS9; obtain ⟨p9, hp9⟩ := hS9; subst hp9; go_simp; try with_reducible rfl))
      (refine wpAnyH_take (i := 1) (v := ?_) rfl (by kernel_rfl) (by kernel_rfl) (by kernel_rfl) (fun _ _ _ h => h) (Or.inl ⟨by rfl, ?_⟩) ⟨_, rfl⟩ ?_; rotate_left; (intro w9 hS9; obtain ⟨p9, hp9⟩ := hS9; subst hp9; go_simp; try with_reducible rfl))
      (refine wpAnyH_take (i := 2) (v := ?_) rfl (by kernel_rfl) (by kernel_rfl) (by kernel_rfl) (fun _ _ _ h => h) (Or.inl ⟨by rfl, ?_⟩) ⟨_, rfl⟩ ?_; rotate_left; (intro w9 hS9; obtain ⟨p9, hp9⟩ := hS9; subst hp9; go_simp; try with_reducible rfl))
      (refine wpAnyH_take (i := 3) (v := ?_) rfl (by kernel_rfl) (by kernel_rfl) (by kernel_rfl) (fun _ _ _ h => h) (Or.inl ⟨by rfl, ?_⟩) ⟨_, rfl⟩ ?_; rotate_left; (intro w9 hS9; obtain ⟨p9, hp9⟩ := hS9; subst hp9; go_simp; try with_reducible rfl))
      (refine wpAnyH_take (i := 4) (v := ?_) rfl (by kernel_rfl) (by kernel_rfl) (by kernel_rfl) (fun _ _ _ h => h) (Or.inl ⟨by rfl, ?_⟩) ⟨_, rfl⟩ ?_; rotate_left; (intro w9 hS9; obtain ⟨p9, hp9⟩ := hS9; subst hp9; go_simp; try with_reducible rfl))
      (refine wpAnyH_take (i := 5) (v := ?_) rfl (by kernel_rfl) (by kernel_rfl) (by kernel_rfl) (fun _ _ _ h => h) (Or.inl ⟨by rfl, ?_⟩) ⟨_, rfl⟩ ?_; rotate_left; (intro w9 hS9; obtain ⟨p9, hp9⟩ := hS9; subst hp9; go_simp; try with_reducible rfl))
      (refine wpAnyH_one (i := 6) (by kernel_rfl) rfl (fun K hK => ?_); go_simp; refine (CP lw.world).mono ?_; rintro e wz ⟨pv, rfl, hown, hb2⟩; (obtain ⟨lw2, rfl⟩ : ∃ p : LaterOf _, wz = p.world := ⟨⟨wz, below_chain lw.below hb2 lw.below.size⟩, rfl⟩); refine hK _ _ ⟨lw2, rfl⟩ ?_; clear hK K)
      obtain ⟨pa, pcap, rfl⟩ : ∃ pa pcap, pv = .slice pa ps.length pcap := by
        rcases hown.2 with ⟨h, h0⟩ | ⟨g, cap, cur, h, _⟩
        · exact ⟨none, 0, by rw [h, h0]⟩
        · exact ⟨_, _, h⟩
      (refine wpAnyH_one (i := 7) (by kernel_rfl) rfl (fun K hK => ?_); go_simp; refine hK _ _ ⟨_, rfl⟩ ?_; clear hK K)
      (refine wpAnyH_one (i := 8) (by kernel_rfl) rfl (fun K hK => ?_); go_simp; refine hK _ _ ⟨_, rfl⟩ ?_; clear hK K)
      (refine wpAnyH_done (by kernel_rfl) ?_ _)
      have HB2 := Lib.hid (below_chain HB.out lw2.below HB.out.size)
      have HC2 := Lib.hid ((lw2.below.block _ (heap_lt HCW.out)).trans HCW.out)
      clear hown hb2
      by_cases h3 : ps.length ≤ 1024
      · have h3' : ¬ (1024 : Int) < (ps.length : Int) := by omega
        have HF := Lib.hid (HST.out (by rw [HFE.out]; simpa using h3))
        clear HST HBAD h3
        go_wp2
        go_roundw
        case rel => exact ⟨j + 1, by omega, by go_num, HF.out, HB2.out, HC2.out⟩
        case measure => simp [intOf]; omega
      · have h3' : (1024 : Int) < (ps.length : Int) := by omega
        have HF := Lib.hid (HBAD.out (by rw [HFE.out]; simpa using h3))
        clear HST HBAD h3
        go_wp2
        go_ret
        exact ⟨by rw [HF.out]; rfl, HB2.out⟩
    · have h1' : ¬ (j : Int) < (l.length : Int) := by omega
      have HF := Lib.hid (show l.all (fewC x k z) = true by
        have := HALL.out
        rwa [List.take_of_length_le (by omega)] at this)
      go_wp2
      go_ret
      exact ⟨by rw [HF.out]; rfl, HB.out⟩

/-- A tree that can be built, and its parameters. -/
def Built (x y z : Int) (l : List Itm) : Prop := ∃ a k c : Nat, FitC a k c ∧ x = a ∧ y = ((2 ^ k : Nat) : Int) ∧ z = c ∧ Ready (piecesC a k c) l
def ReadyPost (x y z : Int) (l : List Itm) (w : World) (e : Ending) (w' : World) : Prop := ∃ b : Bool, e = .returned (.bool b) ∧ (b = true → Built x y z l) ∧ Below w.heap.size w w'
theorem data_le {l : List Itm} {i : Itm} (h : i ∈ l) : i.2.2.2.length ≤ sizeT l := by
  have := sizeT_sub (List.singleton_sublist.2 h)
  simpa [sizeT] using this

set_option maxHeartbeats 4000000 in
set_option maxRecDepth 100000 in
theorem rready12_walk (x y z : Int) (v : Value) (l : List Itm) (w : World) (hr : ItRow w v l) (hlen : l.length ≤ 1100000) (hs : sizeT l ≤ 1100000) (hpl : ∀ i ∈ l, i.1.length ≤ 1100000) :
    Calls Tryz.prog 20 #[.agg #[.int .i64 x, .int .i64 y, .int .i64 z], v] w (ReadyPost x y z l w) := by
  have HNO := Lib.hid (fun (w' : World) (hB : Below w.heap.size w w') => show ReadyPost x y z l w (.returned (.bool false)) w' from ⟨false, rfl, (fun h => by cases h), hB⟩)
  have HYES := Lib.hid (fun (h : Built x y z l) (w' : World) (hB : Below w.heap.size w w') => show ReadyPost x y z l w (.returned (.bool true)) w' from ⟨true, rfl, (fun _ => h), hB⟩)
  obtain ⟨w1, hw1, HB1, HC1⟩ : ∃ w1, w1 = w.alloc (.cells #[.int .i64 x, .int .i64 y, .int .i64 z] 23) ∧ Hid (Below w.heap.size w w1) ∧ Hid (w1.heap[w.heap.size]? = some (.cells #[.int .i64 x, .int .i64 y, .int .i64 z] 23 (0, 0))) :=
    ⟨_, rfl, Lib.hid ((Below.refl _ _).alloc (Nat.le_refl _) _), Lib.hid (heap_alloc_new _ _)⟩
  have C1 := r07fit_walk x y z w1
  have HR := Lib.hid hr
  obtain ⟨a, c, rfl, -⟩ := hr
  have c0 := heap_cell HC1.out (j := 0) (v := .int .i64 x) rfl
  have c1 := heap_cell HC1.out (j := 1) (v := .int .i64 y) rfl
  have c2 := heap_cell HC1.out (j := 2) (v := .int .i64 z) rfl
  have HFS := Lib.hid (fun (h : fitCB x y z = true) => fitCB_some h)
  obtain ⟨f, hf⟩ : ∃ f, fitCB x y z = f := ⟨_, rfl⟩
  have HS := Lib.hid hs
  have HPL := Lib.hid hpl
  have HLEN := Lib.hid hlen
  rw [hf] at C1 HFS
  clear hf hs hpl hlen
  go_enter Tryz.func20, Tryz.ntmps20
  go_upto_region 1 with fail
  rw [← hw1]
  clear hw1
  go_wp2_with fail
  refine C1.mono ?_
  rintro e w2 ⟨rfl, hb2⟩
  have HB2 := Lib.hid (below_chain HB1.out hb2 HB1.out.size)
  have HC2 := Lib.hid ((hb2.block _ (heap_lt HC1.out)).trans HC1.out)
  clear C1 c0 c1 c2 hb2
  cases f with
  | false =>
    go_wp2
    go_ret
    exact HNO.out _ HB2.out
  | true =>
  have C2 := r10fit_walk _ l w2 (HR.out.below HB2.out) HLEN.out (by have := HS.out; omega) HPL.out
  have HFT := Lib.hid (fun (h : fitTB l = true) => fitTB_iff.1 h)
  obtain ⟨g, hg⟩ : ∃ g, fitTB l = g := ⟨_, rfl⟩
  rw [hg] at C2 HFT
  clear hg
  go_wp2_with fail
  refine C2.mono ?_
  rintro e w3 ⟨rfl, hb3⟩
  have HB3 := Lib.hid (below_chain HB2.out hb3 HB2.out.size)
  have hC3 := (hb3.block _ (heap_lt HC2.out)).trans HC2.out
  clear C2 hb3
  cases g with
  | false =>
    go_wp2
    go_ret
    exact HNO.out _ HB3.out
  | true =>
  obtain ⟨x', k, z', hfc, rfl, rfl, rfl⟩ := HFS.out (by first | rfl | trivial)
  have HFC := Lib.hid hfc
  have C3 := rsmall12_walk x' k (2 ^ k) z' (.slice a l.length c) l w3 hfc rfl (HR.out.below HB3.out) (fun i hi => Nat.le_trans (data_le hi) HS.out) HLEN.out
  have c0 := heap_cell hC3 (j := 0) (v := .int .i64 (x' : Nat)) rfl
  have c1 := heap_cell hC3 (j := 1) (v := .int .i64 ((2 ^ k : Nat) : Int)) rfl
  have c2 := heap_cell hC3 (j := 2) (v := .int .i64 (z' : Nat)) rfl
  have HFEW := Lib.hid (fun (h : l.all (fewC x' k z') = true) => (show Built (x' : Nat) ((2 ^ k : Nat) : Int) (z' : Nat) l from ⟨x', k, z', HFC.out, rfl, rfl, rfl, HFT.out (by first | rfl | trivial), fun i _ => piecesC_each HFC.out, fun i hi => by simpa [fewC] using List.all_eq_true.1 h i hi, fun i _ => piecesC_flat HFC.out⟩))
  obtain ⟨g2, hg2⟩ : ∃ g2, l.all (fewC x' k z') = g2 := ⟨_, rfl⟩
  rw [hg2] at C3 HFEW
  generalize 2 ^ k = y at *
  clear hg2 hfc hC3
  go_wp2_with fail
  refine C3.mono ?_
  rintro e w4 ⟨rfl, hb4⟩
  have HB4 := Lib.hid (below_chain HB3.out hb4 HB3.out.size)
  clear C3 hb4
  cases g2 with
  | false =>
    go_wp2
    go_ret
    exact HNO.out _ HB4.out
  | true =>
    go_wp2
    go_ret
    exact HYES.out (HFEW.out (by first | rfl | trivial)) _ HB4.out
end Go.Proofs.YtkejdbidomlonaaGreatDoor

namespace Go.Proofs.YtkejdbidomlonaaGreatDoor
open Go.RowKit

/-- Few bytes: what the statement's guard lets by. -/
def FewPost (x y z : Int) (l : List Itm) (w : World) (e : Ending) (w' : World) : Prop := ∃ b : Bool, e = .returned (.bool b) ∧ (b = true → Built x y z l ∧ l.length ≤ 70 ∧ sizeT l ≤ 6000 ∧ ∀ i ∈ l, i.1.length ≤ 400) ∧ Below w.heap.size w w'

set_option maxHeartbeats 4000000 in
set_option maxRecDepth 100000 in
theorem few13_walk (x y z : Int) (v : Value) (l : List Itm) (w : World) (hr : ItRow w v l) (hd : ∀ i ∈ l, i.2.2.2.length ≤ 140737488355328) :
    Calls Tryz.prog 6 #[.agg #[.int .i64 x, .int .i64 y, .int .i64 z], v] w (FewPost x y z l w) := by
  have HNO := Lib.hid (fun (w' : World) (hB : Below w.heap.size w w') => show FewPost x y z l w (.returned (.bool false)) w' from ⟨false, rfl, (fun h => by cases h), hB⟩)
  obtain ⟨w1, hw1, hb1, hc1⟩ : ∃ w1, w1 = w.alloc (.cells #[.int .i64 x, .int .i64 y, .int .i64 z] 23) ∧ Below w.heap.size w w1 ∧ w1.heap[w.heap.size]? = some (.cells #[.int .i64 x, .int .i64 y, .int .i64 z] 23 (0, 0)) :=
    ⟨_, rfl, (Below.refl _ _).alloc (Nat.le_refl _) _, heap_alloc_new _ _⟩
  have HR := Lib.hid hr
  have HD := Lib.hid hd
  have HB1 := Lib.hid hb1
  have HC1 := Lib.hid hc1
  obtain ⟨a, c, rfl, hc, hm, hx⟩ := hr
  have HX := Lib.hid hx
  clear hx hd hc1 hb1
  by_cases h70 : 70 < l.length
  · have h1' : (70 : Int) < (l.length : Int) := by omega
    go_enter Tryz.func6, Tryz.ntmps6
    go_upto_region 1 with fail
    rw [← hw1]
    clear hw1
    go_wp2
    go_ret
    exact HNO.out _ HB1.out
  have h1' : ¬ (70 : Int) < (l.length : Int) := by omega
  have hlen : l.length ≤ 70 := by omega
  have HLEN := Lib.hid hlen
  go_enter Tryz.func6, Tryz.ntmps6
  go_upto_region 1 with fail
  rw [← hw1]
  clear hw1
  go_wp2
  go_loopw [5, 13] (fun t i wr => ∃ k tot : Nat, k ≤ l.length ∧ i = .int .i64 k ∧ t = .int .i64 tot ∧ tot ≤ 6000 ∧ Hid (tot = sizeT (l.take k)) ∧ Hid (∀ x ∈ l.take k, x.1.length ≤ 400) ∧ Below w.heap.size w wr ∧ Hid (wr.heap[w.heap.size]? = some (.cells #[.int .i64 x, .int .i64 y, .int .i64 z] 23 (0, 0)))) (fun _ i _ => l.length - (intOf i).toNat)
  case atStart => exact ⟨0, 0, Nat.zero_le _, rfl, rfl, by omega, Lib.hid (by simp [sizeT]), Lib.hid (by simp), HB1.out, HC1⟩
  case round =>
    obtain ⟨k, tot, hk, rfl, rfl, ht, HSUM, HALL, hB, HCW⟩ := hrel
    have HB := Lib.hid hB
    by_cases h2 : k < l.length
    · have h2' : (k : Int) < (l.length : Int) := by omega
      have hx := HX.out
      rcases hx with hx | ⟨b, o, rfl, hx⟩
      · exfalso; rw [hx] at h2; simp at h2
      obtain ⟨m0, m1, m2, m3⟩ := it_cells hx h2
      have e0 := cell_below hB m0
      have e1 := cell_below hB m1
      have e2 := cell_below hB m2
      have e3 := cell_below hB m3
      have HTK := Lib.hid (List.take_succ_eq_append_getElem h2)
      have hql := HD.out l[k] (by simp)
      have HSS := Lib.hid (sizeT_step h2)
      clear hx m0 m1 m2 m3 hB
      generalize l[k] = it at *
      obtain ⟨p, isd, ex, q⟩ := it
      simp only at hql e0 e1 e2 e3
      have HBA := Lib.hid (HB.out.alloc HB.out.size (.cells #[S p, .bool isd, .bool ex, S q] 50))
      have HCA := Lib.hid ((Below.heap_alloc wr (.cells #[S p, .bool isd, .bool ex, S q] 50) w.heap.size (heap_lt HCW.out)).trans HCW.out)
      have r0 := cell_new wr #[S p, .bool isd, .bool ex, S q] 50 0 rfl
      have r3 := cell_new wr #[S p, .bool isd, .bool ex, S q] 50 3 rfl
      have hw0 : IntKind.i64.wrap ((tot : Int) + (q.length : Int)) = (tot : Int) + (q.length : Int) := by rw [IntKind.wrap_i64]; omega
      by_cases h3 : 6000 < tot + q.length
      · have h3' : (6000 : Int) < (tot : Int) + (q.length : Int) := by omega
        go_wp2
        go_ret
        exact HNO.out _ HBA.out
      have h3' : ¬ (6000 : Int) < (tot : Int) + (q.length : Int) := by omega
      by_cases h4 : 400 < p.length
      · have h4' : (400 : Int) < (p.length : Int) := by omega
        go_wp2
        go_ret
        exact HNO.out _ HBA.out
      have h4' : ¬ (400 : Int) < (p.length : Int) := by omega
      have HQ := Lib.hid (show p.length ≤ 400 by omega)
      have HT := Lib.hid (show tot + q.length ≤ 6000 by omega)
      clear h3 h4
      go_wp2
      go_roundw
      case rel =>
        refine ⟨k + 1, tot + q.length, by omega, by go_num, by simp, HT.out, Lib.hid (by rw [HSS.out, HSUM.out]), Lib.hid ?_, HBA.out, HCA⟩
        rw [HTK.out]
        intro x hx
        rcases List.mem_append.1 hx with hx | hx
        · exact HALL.out x hx
        · rw [List.mem_singleton.1 hx]; exact HQ.out
      case measure => simp [intOf]; omega
    · have h2' : ¬ (k : Int) < (l.length : Int) := by omega
      obtain rfl : k = l.length := by omega
      rw [List.take_of_length_le (Nat.le_refl _)] at HSUM HALL
      have HSZ := Lib.hid (show sizeT l ≤ 6000 by rw [← HSUM.out]; exact ht)
      have CF := rready12_walk x y z (.slice a l.length c) l wr (HR.out.below hB) (by omega) (by have := HSZ.out; omega) (fun i hi => by have := HALL.out i hi; omega)
      have c0 := heap_cell HCW.out (j := 0) (v := .int .i64 x) rfl
      have c1 := heap_cell HCW.out (j := 1) (v := .int .i64 y) rfl
      have c2 := heap_cell HCW.out (j := 2) (v := .int .i64 z) rfl
      clear hB HSUM
      go_wp2_with fail
      refine CF.mono ?_
      rintro e w2 ⟨f, rfl, hf, hb2⟩
      have hB2 := below_chain HB.out hb2 HB.out.size
      have HP := Lib.hid (show FewPost x y z l w (.returned (.bool f)) w2 from ⟨f, rfl, fun h => ⟨hf h, HLEN.out, HSZ.out, HALL.out⟩, hB2⟩)
      clear hf hb2 CF c0 c1 c2
      go_wp2
      go_ret
      exact HP.out
end Go.Proofs.YtkejdbidomlonaaGreatDoor

namespace Go.Proofs.YtkejdbidomlonaaGreatDoor
open Go.RowKit

set_option maxHeartbeats 2000000 in
set_option maxRecDepth 100000 in
theorem rot_walk (x n : Nat) (w : World) (hx : x < 4294967296) (h0 : 0 < n) (hn : n < 32) :
    Calls Tryz.prog 75 #[.int .u32 x, .int .u64 n] w fun e w' => e = .returned (.int .u32 (rotN n x : Nat)) ∧ w' = w := by
  go_enter Tryz.func75, Tryz.ntmps75
  go_wp2
  go_ret
  exact ⟨congrArg (fun z => Ending.returned (Value.int IntKind.u32 z)) (bits_rot (by omega) hx), rfl⟩

set_option maxHeartbeats 4000000 in
set_option maxRecDepth 100000 in
theorem rconst_walk (w : World) :
    Calls Tryz.prog 74 #[] w fun e w' => e = .returned (.agg (kSha.map wV).toArray) ∧ Below w.heap.size w w' := by
  go_enter Tryz.func74, Tryz.ntmps74
  go_upto_region 1 with fail
  generalize hw1 : w.alloc _ = w1
  have hz : w1.heap[w.heap.size]? = some (.cells (Array.replicate 64 (.int .u32 0)) 123 (0, 0)) := by
    rw [← hw1]
    exact heap_alloc_new _ _
  have hb : Below w.heap.size w w1 := by
    rw [← hw1]
    exact (Below.refl _ _).alloc (Nat.le_refl _) _
  clear hw1
  apply wp_region_lit
  refine wpList_build rfl 123 _ rfl (by as_aux_lemma => kernel_rfl) ?_
  refine wpList_store_row rfl 123 _ _ rfl w.heap.size (kSha.map wV).toArray rfl (by as_aux_lemma => kernel_rfl) 123 _ hz (by as_aux_lemma => kernel_rfl) rfl (by as_aux_lemma => kernel_rfl) ?_
  apply wpList_nil
  generalize hw2 : w1.setRow _ _ = w2
  have hz2 : w2.heap[w.heap.size]? = some (.cells (kSha.map wV).toArray 123 (0, 0)) := by
    rw [← hw2]
    exact setRow_heap w1 _ _ _ _ _ hz
  have hb2 : Below w.heap.size w w2 := by
    rw [← hw2]
    exact below_setRow hb (Nat.le_refl _) _
  clear hw2
  rename_i hK
  refine hK _ _ ?_
  apply wp_ret
  exact bodyPost_ret (v := .agg (kSha.map wV).toArray) (results_cell_row rfl _ _ w.heap.size 123 _ _ _ (by as_aux_lemma => kernel_rfl) hz2 Tryz.underlying123 rfl (by as_aux_lemma => kernel_rfl)) rfl ⟨rfl, hb2⟩

set_option maxHeartbeats 4000000 in
set_option maxRecDepth 100000 in
theorem rfirst_walk (w : World) :
    Calls Tryz.prog 47 #[] w fun e w' => e = .returned (.agg (h0Sha.words.map wV).toArray) ∧ Below w.heap.size w w' := by
  go_enter Tryz.func47, Tryz.ntmps47
  go_upto_region 1 with fail
  generalize hw1 : w.alloc _ = w1
  have hz : w1.heap[w.heap.size]? = some (.cells (Array.replicate 8 (.int .u32 0)) 93 (0, 0)) := by
    rw [← hw1]
    exact heap_alloc_new _ _
  have hb : Below w.heap.size w w1 := by
    rw [← hw1]
    exact (Below.refl _ _).alloc (Nat.le_refl _) _
  clear hw1
  apply wp_region_lit
  refine wpList_build rfl 93 _ rfl (by as_aux_lemma => kernel_rfl) ?_
  refine wpList_store_row rfl 93 _ _ rfl w.heap.size (h0Sha.words.map wV).toArray rfl (by as_aux_lemma => kernel_rfl) 93 _ hz (by as_aux_lemma => kernel_rfl) rfl (by as_aux_lemma => kernel_rfl) ?_
  apply wpList_nil
  generalize hw2 : w1.setRow _ _ = w2
  have hz2 : w2.heap[w.heap.size]? = some (.cells (h0Sha.words.map wV).toArray 93 (0, 0)) := by
    rw [← hw2]
    exact setRow_heap w1 _ _ _ _ _ hz
  have hb2 : Below w.heap.size w w2 := by
    rw [← hw2]
    exact below_setRow hb (Nat.le_refl _) _
  clear hw2
  rename_i hK
  refine hK _ _ ?_
  apply wp_ret
  exact bodyPost_ret (v := .agg (h0Sha.words.map wV).toArray) (results_cell_row rfl _ _ w.heap.size 93 _ _ _ (by as_aux_lemma => kernel_rfl) hz2 Tryz.underlying93 rfl (by as_aux_lemma => kernel_rfl)) rfl ⟨rfl, hb2⟩
end Go.Proofs.YtkejdbidomlonaaGreatDoor

namespace Go.Proofs.YtkejdbidomlonaaGreatDoor
open Go.RowKit

set_option maxHeartbeats 4000000 in
set_option maxRecDepth 100000 in
theorem words_walk (b : List UInt8) (hl : b.length = 64) (w : World) :
    Calls Tryz.prog 73 #[.agg (b.map bV).toArray] w fun e w' => e = .returned (.agg ((schedW b).map wV).toArray) ∧ Below w.heap.size w w' := by
  go_enter Tryz.func73, Tryz.ntmps73
  go_upto_region 2 with fail
  generalize hw1 : ((w.alloc _).alloc _).alloc _ = w1
  have hz0 : w1.heap[w.heap.size]? = some (.cells (b.map bV).toArray 95 (0, 0)) := by
    rw [← hw1, Below.heap_alloc _ _ _ (by simp; omega)]
    exact heap_alloc2_old _ _ _
  have hz1 : w1.heap[w.heap.size + 1]? = some (.cells (Array.replicate 64 (.int .u32 0)) 123 (0, 0)) := by
    rw [← hw1, Below.heap_alloc _ _ _ (by simp)]
    exact heap_alloc2_new _ _ _
  have hz2 : w1.heap[w.heap.size + 1 + 1]? = some (.cells (cellsW 64 ((firstW b).take 0)) 123 (0, 0)) := by
    rw [← hw1]
    exact heap_alloc3 _ _ _ _
  have hb : Below w.heap.size w w1 := by
    rw [← hw1]
    exact (((Below.refl _ _).alloc (Nat.le_refl _) _).alloc (by simp) _).alloc (by simp; omega) _
  clear hw1
  go_wp2
  go_loopw [4] (fun i wr => ∃ k : Nat, k ≤ 16 ∧ i = .int .i64 k ∧ wr.heap[w.heap.size + 1 + 1]? = some (.cells (cellsW 64 ((firstW b).take k)) 123 (0, 0)) ∧ Gro (w.heap.size + 1 + 1) w1 wr) (fun i _ => 16 - (intOf i).toNat)
  case atStart => exact ⟨0, Nat.zero_le _, rfl, hz2, gro_of (Below.refl _ _)⟩
  case round =>
    obtain ⟨k, hk, rfl, hzr, hG⟩ := hrel
    have hfl := firstW_len b
    by_cases h1 : k < 16
    · have h1' : (k : Int) < 16 := by omega
      have y0 := (hG.block w.heap.size (heap_lt hz0) (fun e => by have := Option.some.inj e; omega)).trans hz0
      have c0 := LaterOf.cell (arr_cell y0 (map_at (f := bV) (i := 4 * k) (by omega)))
      have c1 := LaterOf.cell (arr_cell y0 (map_at (f := bV) (i := 4 * k + 1) (by omega)))
      have c2 := LaterOf.cell (arr_cell y0 (map_at (f := bV) (i := 4 * k + 2) (by omega)))
      have c3 := LaterOf.cell (arr_cell y0 (map_at (f := bV) (i := 4 * k + 3) (by omega)))
      have htl : ((firstW b).take k).length = k := by rw [List.length_take]; omega
      have hwv := firstW_at (b := b) (k := k) (by omega)
      rw [wordB_at (by omega)] at hwv
      have HT := Lib.hid (List.take_succ_eq_append_getElem (l := firstW b) (i := k) (by omega))
      generalize b[4 * k] = x0 at *
      generalize b[4 * k + 1] = x1 at *
      generalize b[4 * k + 2] = x2 at *
      generalize b[4 * k + 3] = x3 at *
      unfold bV at c0 c1 c2 c3
      have HWV : Hid (bits BinOp.or IntKind.u32 (bits BinOp.or IntKind.u32 (bits BinOp.or IntKind.u32 ((x0.toNat : Int) % 4294967296 * 16777216 % 4294967296) ((x1.toNat : Int) % 4294967296 * 65536 % 4294967296)) ((x2.toNat : Int) % 4294967296 * 256 % 4294967296)) ((x3.toNat : Int) % 4294967296) = (((firstW b)[k]'(by omega) : Nat) : Int)) := Lib.hid (by
        rw [hwv, ← word_or (UInt8.toNat_lt x0) (UInt8.toNat_lt x1) (UInt8.toNat_lt x2) (UInt8.toNat_lt x3)]
        have h0 := shl_cast (s := 24) (UInt8.toNat_lt x0) (by omega)
        have h1 := shl_cast (s := 16) (UInt8.toNat_lt x1) (by omega)
        have h2 := shl_cast (s := 8) (UInt8.toNat_lt x2) (by omega)
        have h3 := UInt8.toNat_lt x3
        rw [show ((x3.toNat : Int) % 4294967296) = (x3.toNat : Int) by omega]
        rw [← h0, ← h1, ← h2]
        rfl)
      generalize (firstW b)[k]'(by omega) = wd at *
      have HZR := Lib.hid hzr
      have HG := Lib.hid hG
      have HTL := Lib.hid htl
      clear hzr hG y0 hwv htl hfl
      go_upto_region 5 with fail
      (refine wp_tail_quick 31 1 rfl (by kernel_rfl) (by kernel_rfl) (by kernel_rfl) (by kernel_rfl) ?_; simp only [List.take_succ_cons, List.take_zero]; (repeat (go_big_quiet_step (fail))); refine wpQuiet_nil ?_; intro _ hw1; obtain ⟨lw, hw2⟩ := hw1; subst hw2)
      rw [HWV.out]
      have hz4 := (lw.below.block _ (heap_lt HZR.out)).trans HZR.out
      have HG4 := Lib.hid (gro_chain HG.out lw.below)
      have f1 := arr_frozen (i := k) hz4
      have d1 := arr_cell hz4 (cellsW_zero (n := 64) (i := k) (by have := HTL.out; omega) (by omega))
      have s1 := is_some d1
      have HA := Lib.hid (arr_push' (x := wd) hz4 (by have := HTL.out; omega))
      rw [HTL.out] at HA
      clear c0 c1 c2 c3 hz4 HWV
      (refine wpAny_ready (rs := [31]) (by kernel_rfl) (by simp) ?_; refine AllReady.cons rfl (fun K hK => ?_) AllReady.nil; go_simp; refine hK _ _ ?_; clear hK K)
      refine wpAny_done (by kernel_rfl) ?_ _
      obtain ⟨w3, hw3⟩ : ∃ w3, w3 = lw.world.setCell ⟨w.heap.size + 1 + 1, k, none⟩ (.int .u32 ((wd : Nat) : Int)) := ⟨_, rfl⟩
      rw [← hw3]
      have HA2 : Hid (w3.heap[w.heap.size + 1 + 1]? = some (.cells (cellsW 64 ((firstW b).take (k + 1))) 123 (0, 0))) := by rw [hw3, HT.out]; exact HA
      have HG5 : Hid (Gro (w.heap.size + 1 + 1) w1 w3) := Lib.hid (by rw [hw3]; exact gro_set HG4.out _ _)
      clear hw3 HA f1 d1 s1
      go_wp2
      go_roundw
      case rel => exact ⟨k + 1, by omega, by go_num, HA2.out, HG5.out⟩
      case measure => simp [intOf]; omega
    · obtain rfl : k = 16 := by omega
      rw [List.take_of_length_le (by rw [hfl]; exact Nat.le_refl _)] at hzr
      rw [show ((16 : Nat) : Int) = 16 from rfl]
      go_wp2
      obtain ⟨w2, rfl⟩ : ∃ w2 : World, w2 = wr := ⟨_, rfl⟩
      have HZ1 := Lib.hid hz1
      clear hz0 hz1 hz2 hk h1
      go_loopw [5] (fun i wr => ∃ (ws : List Nat) (m : Nat), ws.length = m + 16 ∧ m ≤ 48 ∧ i = .int .i64 ((m : Int) + 16) ∧ W32 ws ∧ extW (48 - m) ws = schedW b ∧ wr.heap[w.heap.size + 1 + 1]? = some (.cells (cellsW 64 ws) 123 (0, 0)) ∧ Gro (w.heap.size + 1 + 1) w1 wr) (fun i _ => 64 - (intOf i).toNat)
      case atStart => exact ⟨firstW b, 0, hfl, by omega, rfl, firstW_32 b, rfl, hzr, hG⟩
      case round =>
        clear hzr hG hfl
        obtain ⟨ws, m, hwl, hm, rfl, h32, hext, hzr, hG⟩ := hrel
        by_cases h1 : m < 48
        · have h1' : (m : Int) + 16 < 64 := by omega
          have c0 := arr_cell hzr (cellsW_at (i := m) (by omega))
          have c1 := arr_cell hzr (cellsW_at (i := m + 1) (by omega))
          have c9 := arr_cell hzr (cellsW_at (i := m + 9) (by omega))
          have c14 := arr_cell hzr (cellsW_at (i := m + 14) (by omega))
          have HN := Lib.hid (nextW_at hwl)
          have HE := Lib.hid ((extW_one (n := 48 - m) (ws := ws) (by omega)).symm.trans hext)
          have hx1 := h32.at (i := m + 1) (by omega)
          have hx0 := h32.at (i := m) (by omega)
          have hx9 := h32.at (i := m + 9) (by omega)
          have hx14 := h32.at (i := m + 14) (by omega)
          generalize ws[m + 1] = x1 at *
          generalize ws[m] = x0 at *
          generalize ws[m + 9] = x9 at *
          generalize ws[m + 14] = x14 at *
          unfold wV at c0 c1 c9 c14
          have q0 := LaterOf.cell c0
          have q9 := LaterOf.cell c9
          have HZR := Lib.hid hzr
          have HG := Lib.hid hG
          have H32 := Lib.hid h32
          have HWL := Lib.hid hwl
          clear hzr hG h32 hext hwl
          have D1 : ∀ W : World, Calls Tryz.prog 75 #[.int .u32 x1, .int .u64 7] W fun e w' => e = .returned (.int .u32 (rotN 7 x1 : Nat)) ∧ w' = W := fun W => rot_walk x1 7 W hx1 (by decide) (by decide)
          have D2 : ∀ W : World, Calls Tryz.prog 75 #[.int .u32 x1, .int .u64 18] W fun e w' => e = .returned (.int .u32 (rotN 18 x1 : Nat)) ∧ w' = W := fun W => rot_walk x1 18 W hx1 (by decide) (by decide)
          have D3 : ∀ W : World, Calls Tryz.prog 75 #[.int .u32 x14, .int .u64 17] W fun e w' => e = .returned (.int .u32 (rotN 17 x14 : Nat)) ∧ w' = W := fun W => rot_walk x14 17 W hx14 (by decide) (by decide)
          have D4 : ∀ W : World, Calls Tryz.prog 75 #[.int .u32 x14, .int .u64 19] W fun e w' => e = .returned (.int .u32 (rotN 19 x14 : Nat)) ∧ w' = W := fun W => rot_walk x14 19 W hx14 (by decide) (by decide)
          go_wp2_with (first | (go_at_call 75; (with_reducible refine (D1 _).mono ?_); rintro r wz ⟨rfl, rfl⟩) | (go_at_call 75; (with_reducible refine (D2 _).mono ?_); rintro r wz ⟨rfl, rfl⟩) | (go_at_call 75; (with_reducible refine (D3 _).mono ?_); rintro r wz ⟨rfl, rfl⟩) | (go_at_call 75; (with_reducible refine (D4 _).mono ?_); rintro r wz ⟨rfl, rfl⟩))
          rw [ssA_val hx1, ssB_val hx14]
          clear D1 D2 D3 D4
          (refine wp_tail_quick 15 1 rfl (by kernel_rfl) (by kernel_rfl) (by kernel_rfl) (by kernel_rfl) ?_; simp only [List.take_succ_cons, List.take_zero]; (repeat (go_big_quiet_step (fail))); refine wpQuiet_nil ?_; intro _ hw1; obtain ⟨lw, hw2⟩ := hw1; subst hw2)
          rw [show ((((x0 : Int) + (ssA x1 : Nat) + x9) % 4294967296 + (ssB x14 : Nat)) % 4294967296) = ((nextW ws : Nat) : Int) by rw [HN.out]; omega]
          have hz4 := (lw.below.block _ (heap_lt HZR.out)).trans HZR.out
          have HG4 := Lib.hid (gro_chain HG.out lw.below)
          have f1 := arr_frozen (i := m + 16) hz4
          have d1 := arr_cell hz4 (cellsW_zero (n := 64) (i := m + 16) (by have := HWL.out; omega) (by omega))
          have s1 := is_some d1
          have HA := Lib.hid (arr_push' (x := nextW ws) hz4 (by have := HWL.out; omega))
          rw [HWL.out] at HA
          clear q0 q9 c0 c1 c9 c14 hz4
          (refine wpAny_ready (rs := [15]) (by kernel_rfl) (by simp) ?_; refine AllReady.cons rfl (fun K hK => ?_) AllReady.nil; go_simp; refine hK _ _ ?_; clear hK K)
          refine wpAny_done (by kernel_rfl) ?_ _
          obtain ⟨w3, hw3⟩ : ∃ w3, w3 = lw.world.setCell ⟨w.heap.size + 1 + 1, m + 16, none⟩ (.int .u32 ((nextW ws : Nat) : Int)) := ⟨_, rfl⟩
          rw [← hw3]
          have HA2 : Hid (w3.heap[w.heap.size + 1 + 1]? = some (.cells (cellsW 64 (ws ++ [nextW ws])) 123 (0, 0))) := by rw [hw3]; exact HA
          have HG5 : Hid (Gro (w.heap.size + 1 + 1) w1 w3) := Lib.hid (by rw [hw3]; exact gro_set HG4.out _ _)
          clear hw3 HA f1 d1 s1
          go_wp2
          go_roundw
          case rel => exact ⟨ws ++ [nextW ws], m + 1, by rw [List.length_append, HWL.out]; rfl, by omega, by go_num, H32.out.snoc (nextW_lt _), by rw [← HE.out, show 48 - (m + 1) = 48 - m - 1 by omega], HA2.out, HG5.out⟩
          case measure => simp [intOf]; omega
        · obtain rfl : m = 48 := by omega
          have hws : ws = schedW b := hext
          rw [cellsW_all (by omega), hws] at hzr
          have hz1 := (hG.block _ (heap_lt HZ1.out) (fun e => by have := Option.some.inj e; omega)).trans HZ1.out
          have hsz : (Tryz.prog.info? 123).map (·.size) = some (((schedW b).map wV).toArray).size := by
            simp only [List.size_toArray, List.length_map, schedW_len]
            kernel_rfl
          have hsz2 : (Array.replicate 64 (Value.int .u32 0)).size = (((schedW b).map wV).toArray).size := by
            simp only [List.size_toArray, List.length_map, schedW_len, Array.size_replicate]
          have HB := Lib.hid (hb.trans (gro_below hG (by omega) hb.size))
          have hone := one_map (f := wV) (fun _ => rfl) (schedW b)
          clear hext h32 hws hwl hG
          go_upto_region 14 with fail
          apply wp_region_lit
          refine wpList_load_row rfl 123 _ rfl (w.heap.size + 1 + 1) rfl 123 _ _ _ hzr Tryz.underlying123 rfl hsz ?_
          refine wpList_store_row rfl 123 _ _ rfl (w.heap.size + 1) ((schedW b).map wV).toArray rfl (by as_aux_lemma => kernel_rfl) 123 _ hz1 hsz hsz2 hone ?_
          apply wpList_nil
          generalize hw2 : wr.setRow _ _ = w3
          have hz3 : w3.heap[w.heap.size + 1]? = some (.cells ((schedW b).map wV).toArray 123 (0, 0)) := by
            rw [← hw2]
            exact setRow_heap wr _ _ _ _ _ hz1
          have hb3 : Below w.heap.size w w3 := by
            rw [← hw2]
            exact below_setRow HB.out (by omega) _
          clear hw2
          rename_i hK
          refine hK _ _ ?_
          apply wp_ret
          exact bodyPost_ret (v := .agg ((schedW b).map wV).toArray) (results_cell_row rfl _ _ (w.heap.size + 1) 123 _ _ _ (by as_aux_lemma => kernel_rfl) hz3 Tryz.underlying123 rfl hsz) rfl ⟨rfl, hb3⟩
end Go.Proofs.YtkejdbidomlonaaGreatDoor
