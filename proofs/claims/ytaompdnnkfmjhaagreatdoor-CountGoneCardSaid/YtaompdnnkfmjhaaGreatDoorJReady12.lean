/- Which trees can be built: the reference's small, Ready. Chapter 13's trees that are few. -/
import Derived.Test.YtaompdnnkfmjhaaGreatDoorJCdcPlain
import Derived.Test.YtaompdnnkfmjhaaGreatDoorJRSha4
import Derived.Test.YtaompdnnkfmjhaaGreatDoorJR10u
import Derived.Test.YtaompdnnkfmjhaaGreatDoorJPFit11
namespace Go.Proofs.YtaompdnnkfmjhaaGreatDoor
open Go.RowKit

def fewC (x k z : Nat) (i : Itm) : Bool := decide ((piecesC x k z i.2.2.2).length ≤ 1024)
set_option maxHeartbeats 4000000 in
set_option maxRecDepth 100000 in
theorem rsmall12_walk (x k y z : Nat) (v : Value) (l : List Itm) (w : World) (hf : FitC x k z) (hpk : 2 ^ k = y) (hr : ItRow w v l) (hd : ∀ i ∈ l, i.2.2.2.length ≤ 1100000) (hlen : l.length ≤ 1100000) :
    Calls Tryz.prog 68 #[PrmV x y z, v] w fun e w' => e = .returned (.bool (l.all (fewC x k z))) ∧ Below w.heap.size w w' := by
  obtain ⟨w1, hw1, hb1, hc⟩ : ∃ w1, w1 = w.alloc (.cells #[.int .i64 (x : Nat), .int .i64 (y : Nat), .int .i64 (z : Nat)] 51) ∧ Below w.heap.size w w1 ∧ w1.heap[w.heap.size]? = some (.cells #[.int .i64 (x : Nat), .int .i64 (y : Nat), .int .i64 (z : Nat)] 51 (0, 0)) :=
    ⟨_, rfl, (Below.refl _ _).alloc (Nat.le_refl _) _, heap_alloc_new _ _⟩
  have HC := Lib.hid hc
  have HB1 := Lib.hid hb1
  have CP := fun (s : List UInt8) (W : World) (h : s.length ≤ 1100000) => r07pieces_walk x k y z s W hf hpk h
  obtain ⟨a, c, rfl, hcc, hm, hx⟩ := hr
  have HX := Lib.hid hx
  have HD := Lib.hid hd
  clear hx hf hpk hd hc hb1
  go_enter Tryz.func68, Tryz.ntmps68
  go_upto_region 1 with fail
  rw [← hw1]
  clear hw1
  go_wp2
  go_loopw [5] (fun i wr => ∃ j : Nat, j ≤ l.length ∧ i = .int .i64 j ∧ (l.take j).all (fewC x k z) = true ∧ Below w.heap.size w wr ∧ wr.heap[w.heap.size]? = some (.cells #[.int .i64 (x : Nat), .int .i64 (y : Nat), .int .i64 (z : Nat)] 51 (0, 0))) (fun i _ => l.length - (intOf i).toNat)
  case atStart => exact ⟨0, Nat.zero_le _, rfl, by simp, HB1.out, HC.out⟩
  case round =>
    obtain ⟨j, hj, rfl, hall, hB, hc⟩ := hrel
    have HALL := Lib.hid hall
    have HB := Lib.hid hB
    have HCW := Lib.hid hc
    clear hall
    by_cases h1 : j < l.length
    · have h1' : (j : Int) < (l.length : Int) := by omega
      have hx := HX.out
      rcases hx with hx | ⟨b, o, rfl, hx⟩
      · exfalso; rw [hx] at h1; simp at h1
      obtain ⟨-, -, -, m3⟩ := it_cells hx h1
      have e3 := LaterOf.cell (cell_below hB m3)
      have l0 := LaterOf.cell (heap_cell hc (j := 0) (v := .int .i64 (x : Nat)) rfl)
      have l1 := LaterOf.cell (heap_cell hc (j := 1) (v := .int .i64 (y : Nat)) rfl)
      have l2 := LaterOf.cell (heap_cell hc (j := 2) (v := .int .i64 (z : Nat)) rfl)
      have hdl := HD.out l[j] (List.getElem_mem h1)
      have HST := Lib.hid (fun (h : fewC x k z l[j] = true) => (show (l.take (j + 1)).all (fewC x k z) = true by
        rw [List.take_succ_eq_append_getElem h1, List.all_append, HALL.out]; simp [h]))
      have HBAD := Lib.hid (fun (h : fewC x k z l[j] = false) => (show l.all (fewC x k z) = false by
        rw [List.all_eq_false]; exact ⟨l[j], by simp, by simp [h]⟩))
      clear hx m3 hB hc
      generalize l[j] = it at *
      obtain ⟨p, isd, ex, data⟩ := it
      simp only at e3 hdl
      have CP := fun W => CP data W hdl
      have HFE := Lib.hid (show fewC x k z (p, isd, ex, data) = decide ((piecesC x k z data).length ≤ 1024) from rfl)
      generalize piecesC x k z data = ps at *
      go_wp2
      (refine wp_held (by kernel_rfl) ?_; intro lw)
      (refine wpAnyH_take (i := 0) (v := ?_) rfl (by kernel_rfl) (by kernel_rfl) (by kernel_rfl) (fun _ _ _ h => h) (Or.inl ⟨by rfl, ?_⟩) ⟨_, rfl⟩ ?_; rotate_left; (intro w9 hS9; obtain ⟨p9, hp9⟩ := hS9; subst hp9; go_simp; try with_reducible rfl))
      (refine wpAnyH_take (i := 1) (v := ?_) rfl (by kernel_rfl) (by kernel_rfl) (by kernel_rfl) (fun _ _ _ h => h) (Or.inl ⟨by rfl, ?_⟩) ⟨_, rfl⟩ ?_; rotate_left; (intro w9 hS9; obtain ⟨p9, hp9⟩ := hS9; subst hp9; go_simp; try with_reducible rfl))
      (refine wpAnyH_take (i := 2) (v := ?_) rfl (by kernel_rfl) (by kernel_rfl) (by kernel_rfl) (fun _ _ _ h => h) (Or.inl ⟨by rfl, ?_⟩) ⟨_, rfl⟩ ?_; rotate_left; (intro w9 hS9; obtain ⟨p9, hp9⟩ := hS9; subst hp9; go_simp; try with_reducible rfl))
      (refine wpAnyH_take (i := 3) (v := ?_) rfl (by kernel_rfl) (by kernel_rfl) (by kernel_rfl) (fun _ _ _ h => h) (Or.inl ⟨by rfl, ?_⟩) ⟨_, rfl⟩ ?_; rotate_left; (intro w9 hS9; obtain ⟨p9, hp9⟩ := hS9; subst hp9; go_simp; try with_reducible rfl))
      (refine wpAnyH_take (i := 4) (v := ?_) rfl (by kernel_rfl) (by kernel_rfl) (by kernel_rfl) (fun _ _ _ h => h) (Or.inl ⟨by rfl, ?_⟩) ⟨_, rfl⟩ ?_; rotate_left; (intro w9 hS9; obtain ⟨p9, hp9⟩ := hS9; subst hp9; go_simp; try with_reducible rfl))
      (refine wpAnyH_take (i := 5) (v := ?_) rfl (by kernel_rfl) (by kernel_rfl) (by kernel_rfl) (fun _ _ _ h => h) (Or.inl ⟨by rfl, ?_⟩) ⟨_, rfl⟩ ?_; rotate_left; (intro w9 hS9; obtain ⟨p9, hp9⟩ := hS9; subst hp9; go_simp; try with_reducible rfl))
      (refine wpAnyH_one (i := 6) (by kernel_rfl) rfl (fun K hK => ?_); go_simp; refine (CP lw.world).mono ?_; rintro e wz ⟨pv, rfl, hown, hb2⟩; (obtain ⟨lw2, rfl⟩ : ∃ p : LaterOf _, wz = p.world := ⟨⟨wz, below_chain lw.below hb2 lw.below.size⟩, rfl⟩); refine hK _ _ ⟨lw2, rfl⟩ ?_; clear hK K)
      obtain ⟨pa, pcap, rfl⟩ : ∃ pa pcap, pv = .slice pa ps.length pcap := by
        rcases hown.2 with ⟨h, h0⟩ | ⟨g, cap, cur, h, _⟩
        · exact ⟨none, 0, by rw [h, h0]⟩
        · exact ⟨_, _, h⟩
      (refine wpAnyH_one (i := 7) (by kernel_rfl) rfl (fun K hK => ?_); go_simp; refine hK _ _ ⟨_, rfl⟩ ?_; clear hK K)
      (refine wpAnyH_one (i := 8) (by kernel_rfl) rfl (fun K hK => ?_); go_simp; refine hK _ _ ⟨_, rfl⟩ ?_; clear hK K)
      (refine wpAnyH_done (by kernel_rfl) ?_ _)
      have HB2 := Lib.hid (below_chain HB.out lw2.below HB.out.size)
      have HC2 := Lib.hid ((lw2.below.block _ (heap_lt HCW.out)).trans HCW.out)
      clear hown hb2
      by_cases h3 : ps.length ≤ 1024
      · have h3' : ¬ (1024 : Int) < (ps.length : Int) := by omega
        have HF := Lib.hid (HST.out (by rw [HFE.out]; simpa using h3))
        clear HST HBAD h3
        go_wp2
        go_roundw
        case rel => exact ⟨j + 1, by omega, by go_num, HF.out, HB2.out, HC2.out⟩
        case measure => simp [intOf]; omega
      · have h3' : (1024 : Int) < (ps.length : Int) := by omega
        have HF := Lib.hid (HBAD.out (by rw [HFE.out]; simpa using h3))
        clear HST HBAD h3
        go_wp2
        go_ret
        exact ⟨by rw [HF.out]; rfl, HB2.out⟩
    · have h1' : ¬ (j : Int) < (l.length : Int) := by omega
      have HF := Lib.hid (show l.all (fewC x k z) = true by
        have := HALL.out
        rwa [List.take_of_length_le (by omega)] at this)
      go_wp2
      go_ret
      exact ⟨by rw [HF.out]; rfl, HB.out⟩

/-- A tree that can be built, and its parameters. -/
def Built (x y z : Int) (l : List Itm) : Prop := ∃ a k c : Nat, FitC a k c ∧ x = a ∧ y = ((2 ^ k : Nat) : Int) ∧ z = c ∧ Ready (piecesC a k c) l
def ReadyPost (x y z : Int) (l : List Itm) (w : World) (e : Ending) (w' : World) : Prop := ∃ b : Bool, e = .returned (.bool b) ∧ (b = true → Built x y z l) ∧ Below w.heap.size w w'
theorem data_le {l : List Itm} {i : Itm} (h : i ∈ l) : i.2.2.2.length ≤ sizeT l := by
  have := sizeT_sub (List.singleton_sublist.2 h)
  simpa [sizeT] using this

set_option maxHeartbeats 4000000 in
set_option maxRecDepth 100000 in
theorem rready12_walk (x y z : Int) (v : Value) (l : List Itm) (w : World) (hr : ItRow w v l) (hlen : l.length ≤ 1100000) (hs : sizeT l ≤ 1100000) (hpl : ∀ i ∈ l, i.1.length ≤ 1100000) :
    Calls Tryz.prog 45 #[.agg #[.int .i64 x, .int .i64 y, .int .i64 z], v] w (ReadyPost x y z l w) := by
  have HNO := Lib.hid (fun (w' : World) (hB : Below w.heap.size w w') => show ReadyPost x y z l w (.returned (.bool false)) w' from ⟨false, rfl, (fun h => by cases h), hB⟩)
  have HYES := Lib.hid (fun (h : Built x y z l) (w' : World) (hB : Below w.heap.size w w') => show ReadyPost x y z l w (.returned (.bool true)) w' from ⟨true, rfl, (fun _ => h), hB⟩)
  obtain ⟨w1, hw1, HB1, HC1⟩ : ∃ w1, w1 = w.alloc (.cells #[.int .i64 x, .int .i64 y, .int .i64 z] 51) ∧ Hid (Below w.heap.size w w1) ∧ Hid (w1.heap[w.heap.size]? = some (.cells #[.int .i64 x, .int .i64 y, .int .i64 z] 51 (0, 0))) :=
    ⟨_, rfl, Lib.hid ((Below.refl _ _).alloc (Nat.le_refl _) _), Lib.hid (heap_alloc_new _ _)⟩
  have C1 := r07fit_walk x y z w1
  have HR := Lib.hid hr
  obtain ⟨a, c, rfl, -⟩ := hr
  have c0 := heap_cell HC1.out (j := 0) (v := .int .i64 x) rfl
  have c1 := heap_cell HC1.out (j := 1) (v := .int .i64 y) rfl
  have c2 := heap_cell HC1.out (j := 2) (v := .int .i64 z) rfl
  have HFS := Lib.hid (fun (h : fitCB x y z = true) => fitCB_some h)
  obtain ⟨f, hf⟩ : ∃ f, fitCB x y z = f := ⟨_, rfl⟩
  have HS := Lib.hid hs
  have HPL := Lib.hid hpl
  have HLEN := Lib.hid hlen
  rw [hf] at C1 HFS
  clear hf hs hpl hlen
  go_enter Tryz.func45, Tryz.ntmps45
  go_upto_region 1 with fail
  rw [← hw1]
  clear hw1
  go_wp2_with fail
  refine C1.mono ?_
  rintro e w2 ⟨rfl, hb2⟩
  have HB2 := Lib.hid (below_chain HB1.out hb2 HB1.out.size)
  have HC2 := Lib.hid ((hb2.block _ (heap_lt HC1.out)).trans HC1.out)
  clear C1 c0 c1 c2 hb2
  cases f with
  | false =>
    go_wp2
    go_ret
    exact HNO.out _ HB2.out
  | true =>
  have C2 := r10fit_walk _ l w2 (HR.out.below HB2.out) HLEN.out (by have := HS.out; omega) HPL.out
  have HFT := Lib.hid (fun (h : fitTB l = true) => fitTB_iff.1 h)
  obtain ⟨g, hg⟩ : ∃ g, fitTB l = g := ⟨_, rfl⟩
  rw [hg] at C2 HFT
  clear hg
  go_wp2_with fail
  refine C2.mono ?_
  rintro e w3 ⟨rfl, hb3⟩
  have HB3 := Lib.hid (below_chain HB2.out hb3 HB2.out.size)
  have hC3 := (hb3.block _ (heap_lt HC2.out)).trans HC2.out
  clear C2 hb3
  cases g with
  | false =>
    go_wp2
    go_ret
    exact HNO.out _ HB3.out
  | true =>
  obtain ⟨x', k, z', hfc, rfl, rfl, rfl⟩ := HFS.out (by first | rfl | trivial)
  have HFC := Lib.hid hfc
  have C3 := rsmall12_walk x' k (2 ^ k) z' (.slice a l.length c) l w3 hfc rfl (HR.out.below HB3.out) (fun i hi => Nat.le_trans (data_le hi) HS.out) HLEN.out
  have c0 := heap_cell hC3 (j := 0) (v := .int .i64 (x' : Nat)) rfl
  have c1 := heap_cell hC3 (j := 1) (v := .int .i64 ((2 ^ k : Nat) : Int)) rfl
  have c2 := heap_cell hC3 (j := 2) (v := .int .i64 (z' : Nat)) rfl
  have HFEW := Lib.hid (fun (h : l.all (fewC x' k z') = true) => (show Built (x' : Nat) ((2 ^ k : Nat) : Int) (z' : Nat) l from ⟨x', k, z', HFC.out, rfl, rfl, rfl, HFT.out (by first | rfl | trivial), fun i _ => piecesC_each HFC.out, fun i hi => by simpa [fewC] using List.all_eq_true.1 h i hi, fun i _ => piecesC_flat HFC.out⟩))
  obtain ⟨g2, hg2⟩ : ∃ g2, l.all (fewC x' k z') = g2 := ⟨_, rfl⟩
  rw [hg2] at C3 HFEW
  generalize 2 ^ k = y at *
  clear hg2 hfc hC3
  go_wp2_with fail
  refine C3.mono ?_
  rintro e w4 ⟨rfl, hb4⟩
  have HB4 := Lib.hid (below_chain HB3.out hb4 HB3.out.size)
  clear C3 hb4
  cases g2 with
  | false =>
    go_wp2
    go_ret
    exact HNO.out _ HB4.out
  | true =>
    go_wp2
    go_ret
    exact HYES.out (HFEW.out (by first | rfl | trivial)) _ HB4.out
end Go.Proofs.YtaompdnnkfmjhaaGreatDoor

namespace Go.Proofs.YtaompdnnkfmjhaaGreatDoor
open Go.RowKit

/-- Few bytes: what the statement's guard lets by. -/
def FewPost (x y z : Int) (l : List Itm) (w : World) (e : Ending) (w' : World) : Prop := ∃ b : Bool, e = .returned (.bool b) ∧ (b = true → Built x y z l ∧ l.length ≤ 70 ∧ sizeT l ≤ 3000 ∧ ∀ i ∈ l, i.1.length ≤ 400) ∧ Below w.heap.size w w'

set_option maxHeartbeats 4000000 in
set_option maxRecDepth 100000 in
theorem few14_walk (x y z : Int) (v : Value) (l : List Itm) (w : World) (hr : ItRow w v l) (hd : ∀ i ∈ l, i.2.2.2.length ≤ 140737488355328) :
    Calls Tryz.prog 21 #[.agg #[.int .i64 x, .int .i64 y, .int .i64 z], v] w (FewPost x y z l w) := by
  have HNO := Lib.hid (fun (w' : World) (hB : Below w.heap.size w w') => show FewPost x y z l w (.returned (.bool false)) w' from ⟨false, rfl, (fun h => by cases h), hB⟩)
  obtain ⟨w1, hw1, hb1, hc1⟩ : ∃ w1, w1 = w.alloc (.cells #[.int .i64 x, .int .i64 y, .int .i64 z] 51) ∧ Below w.heap.size w w1 ∧ w1.heap[w.heap.size]? = some (.cells #[.int .i64 x, .int .i64 y, .int .i64 z] 51 (0, 0)) :=
    ⟨_, rfl, (Below.refl _ _).alloc (Nat.le_refl _) _, heap_alloc_new _ _⟩
  have HR := Lib.hid hr
  have HD := Lib.hid hd
  have HB1 := Lib.hid hb1
  have HC1 := Lib.hid hc1
  obtain ⟨a, c, rfl, hc, hm, hx⟩ := hr
  have HX := Lib.hid hx
  clear hx hd hc1 hb1
  by_cases h70 : 70 < l.length
  · have h1' : (70 : Int) < (l.length : Int) := by omega
    go_enter Tryz.func21, Tryz.ntmps21
    go_upto_region 1 with fail
    rw [← hw1]
    clear hw1
    go_wp2
    go_ret
    exact HNO.out _ HB1.out
  have h1' : ¬ (70 : Int) < (l.length : Int) := by omega
  have hlen : l.length ≤ 70 := by omega
  have HLEN := Lib.hid hlen
  go_enter Tryz.func21, Tryz.ntmps21
  go_upto_region 1 with fail
  rw [← hw1]
  clear hw1
  go_wp2
  go_loopw [5, 13] (fun t i wr => ∃ k tot : Nat, k ≤ l.length ∧ i = .int .i64 k ∧ t = .int .i64 tot ∧ tot ≤ 3000 ∧ Hid (tot = sizeT (l.take k)) ∧ Hid (∀ x ∈ l.take k, x.1.length ≤ 400) ∧ Below w.heap.size w wr ∧ Hid (wr.heap[w.heap.size]? = some (.cells #[.int .i64 x, .int .i64 y, .int .i64 z] 51 (0, 0)))) (fun _ i _ => l.length - (intOf i).toNat)
  case atStart => exact ⟨0, 0, Nat.zero_le _, rfl, rfl, by omega, Lib.hid (by simp [sizeT]), Lib.hid (by simp), HB1.out, HC1⟩
  case round =>
    obtain ⟨k, tot, hk, rfl, rfl, ht, HSUM, HALL, hB, HCW⟩ := hrel
    have HB := Lib.hid hB
    by_cases h2 : k < l.length
    · have h2' : (k : Int) < (l.length : Int) := by omega
      have hx := HX.out
      rcases hx with hx | ⟨b, o, rfl, hx⟩
      · exfalso; rw [hx] at h2; simp at h2
      obtain ⟨m0, m1, m2, m3⟩ := it_cells hx h2
      have e0 := cell_below hB m0
      have e1 := cell_below hB m1
      have e2 := cell_below hB m2
      have e3 := cell_below hB m3
      have HTK := Lib.hid (List.take_succ_eq_append_getElem h2)
      have hql := HD.out l[k] (by simp)
      have HSS := Lib.hid (sizeT_step h2)
      clear hx m0 m1 m2 m3 hB
      generalize l[k] = it at *
      obtain ⟨p, isd, ex, q⟩ := it
      simp only at hql e0 e1 e2 e3
      have HBA := Lib.hid (HB.out.alloc HB.out.size (.cells #[S p, .bool isd, .bool ex, S q] 65))
      have HCA := Lib.hid ((Below.heap_alloc wr (.cells #[S p, .bool isd, .bool ex, S q] 65) w.heap.size (heap_lt HCW.out)).trans HCW.out)
      have r0 := cell_new wr #[S p, .bool isd, .bool ex, S q] 65 0 rfl
      have r3 := cell_new wr #[S p, .bool isd, .bool ex, S q] 65 3 rfl
      have hw0 : IntKind.i64.wrap ((tot : Int) + (q.length : Int)) = (tot : Int) + (q.length : Int) := by rw [IntKind.wrap_i64]; omega
      by_cases h3 : 3000 < tot + q.length
      · have h3' : (3000 : Int) < (tot : Int) + (q.length : Int) := by omega
        go_wp2
        go_ret
        exact HNO.out _ HBA.out
      have h3' : ¬ (3000 : Int) < (tot : Int) + (q.length : Int) := by omega
      by_cases h4 : 400 < p.length
      · have h4' : (400 : Int) < (p.length : Int) := by omega
        go_wp2
        go_ret
        exact HNO.out _ HBA.out
      have h4' : ¬ (400 : Int) < (p.length : Int) := by omega
      have HQ := Lib.hid (show p.length ≤ 400 by omega)
      have HT := Lib.hid (show tot + q.length ≤ 3000 by omega)
      clear h3 h4
      go_wp2
      go_roundw
      case rel =>
        refine ⟨k + 1, tot + q.length, by omega, by go_num, by simp, HT.out, Lib.hid (by rw [HSS.out, HSUM.out]), Lib.hid ?_, HBA.out, HCA⟩
        rw [HTK.out]
        intro x hx
        rcases List.mem_append.1 hx with hx | hx
        · exact HALL.out x hx
        · rw [List.mem_singleton.1 hx]; exact HQ.out
      case measure => simp [intOf]; omega
    · have h2' : ¬ (k : Int) < (l.length : Int) := by omega
      obtain rfl : k = l.length := by omega
      rw [List.take_of_length_le (Nat.le_refl _)] at HSUM HALL
      have HSZ := Lib.hid (show sizeT l ≤ 3000 by rw [← HSUM.out]; exact ht)
      have CF := rready12_walk x y z (.slice a l.length c) l wr (HR.out.below hB) (by omega) (by have := HSZ.out; omega) (fun i hi => by have := HALL.out i hi; omega)
      have c0 := heap_cell HCW.out (j := 0) (v := .int .i64 x) rfl
      have c1 := heap_cell HCW.out (j := 1) (v := .int .i64 y) rfl
      have c2 := heap_cell HCW.out (j := 2) (v := .int .i64 z) rfl
      clear hB HSUM
      go_wp2_with fail
      refine CF.mono ?_
      rintro e w2 ⟨f, rfl, hf, hb2⟩
      have hB2 := below_chain HB.out hb2 HB.out.size
      have HP := Lib.hid (show FewPost x y z l w (.returned (.bool f)) w2 from ⟨f, rfl, fun h => ⟨hf h, HLEN.out, HSZ.out, HALL.out⟩, hB2⟩)
      clear hf hb2 CF c0 c1 c2
      go_wp2
      go_ret
      exact HP.out
end Go.Proofs.YtaompdnnkfmjhaaGreatDoor
