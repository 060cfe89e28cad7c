/- The reference's Build of a tree. Chapter 14's example. Few objects, of few bytes, that are fit. The reference's set of keys out of keys. The reference's Kids. The reference's numbers as bytes. -/
import Derived.Test.YtaompdnnkfmjhaaGreatDoorRDir12
import Derived.Test.YtaompdnnkfmjhaaGreatDoorJCPlus
import Derived.Test.YtaompdnnkfmjhaaGreatDoorJNodesW
import Derived.Test.YtaompdnnkfmjhaaGreatDoorJMapB
import Derived.Test.YtaompdnnkfmjhaaGreatDoorJCList
import Derived.Test.YtaompdnnkfmjhaaGreatDoorJKSet
import Derived.Test.YtaompdnnkfmjhaaGreatDoorJReachQ
import Derived.Test.YtaompdnnkfmjhaaGreatDoorJRowG
import Derived.Test.YtaompdnnkfmjhaaGreatDoorJAny
import Derived.Test.YtaompdnnkfmjhaaGreatDoorJMapI
namespace Go.Proofs.YtaompdnnkfmjhaaGreatDoor
open Go.RowKit

theorem among_nil (ks : List (List UInt8)) : Among ks [] := ⟨rfl, by simp [namesR]⟩
set_option maxHeartbeats 2000000 in
set_option maxRecDepth 100000 in
theorem rbuild12_walk (x k y z : Nat) (iv : Value) (items : List Itm) (w : World) (hf : FitC x k z) (hpk : 2 ^ k = y) (hrd : Ready (piecesC x k z) items) (hir : ItRow w iv items) :
    Calls Tryz.prog 28 #[PrmV x y z, iv] w fun e w' => ∃ v', e = .returned (.tuple #[S (keyN (dirN (piecesC x k z) items 9 [])), v']) ∧ SnpRow w' v' (dirO (piecesC x k z) items 9 [] []) ∧ Below w.heap.size w w' := by
  obtain ⟨w1, hw1, hb1, hc⟩ : ∃ w1, w1 = w.alloc (.cells #[.int .i64 (x : Nat), .int .i64 (y : Nat), .int .i64 (z : Nat)] 51) ∧ Below w.heap.size w w1 ∧ w1.heap[w.heap.size]? = some (.cells #[.int .i64 (x : Nat), .int .i64 (y : Nat), .int .i64 (z : Nat)] 51 (0, 0)) :=
    ⟨_, rfl, (Below.refl _ _).alloc (Nat.le_refl _) _, heap_alloc_new _ _⟩
  have c0 := heap_cell hc (j := 0) (v := .int .i64 (x : Nat)) rfl
  have c1 := heap_cell hc (j := 1) (v := .int .i64 (y : Nat)) rfl
  have c2 := heap_cell hc (j := 2) (v := .int .i64 (z : Nat)) rfl
  have CD := rdir12_walk x k y z iv items hf hpk hrd 9 0 (.slice none 0 0) [] [] w1 (hir.below hb1) (Row.nil _ _) (by omega) rfl (.inl rfl) (among_nil _)
  have HB1 := Lib.hid hb1
  generalize keyN (dirN (piecesC x k z) items 9 []) = kk at *
  generalize dirO (piecesC x k z) items 9 [] [] = oo at *
  obtain ⟨ia, ic, rfl⟩ := row_slice hir
  clear hc hb1 hir hrd hf hpk
  go_enter Tryz.func28, Tryz.ntmps28
  go_upto_region 1 with fail
  rw [← hw1]
  clear hw1
  go_wp2_with fail
  refine CD.mono ?_
  rintro e w2 ⟨v2, rfl, hg2, hb2⟩
  have HR2 := Lib.hid (hg2.row (Row.nil _ _) hb2)
  have HB2 := Lib.hid (below_chain HB1.out hb2 HB1.out.size)
  clear CD hg2 hb2
  go_wp2
  go_ret2
  exact ⟨_, rfl, HR2.out, HB2.out⟩
end Go.Proofs.YtaompdnnkfmjhaaGreatDoor

namespace Go.Proofs.YtaompdnnkfmjhaaGreatDoor
open Go.RowKit

/-- Counts of some roots can be handed on. -/
theorem okC_of {o : List Snp} {rs roots : List (List UInt8)} {c : List Cnt} (h : Counts (kidsO o) rs c) (hr : ∀ k, cntC c k ≠ 0 → Reached o (seedP roots) k) (h1 : rs.length ≤ 1000000) (h2 : 32 * roots.length + rawsL o ≤ 32 * 900000) : OkC c ∧ (32 * c.length ≤ 32 * roots.length + rawsL o) := by
  have hk : ∀ x ∈ c, cntC c x.1 ≠ 0 := fun x hx => (cntC_pos h.fit).1 (List.mem_map.2 ⟨x, hx, rfl⟩)
  have hlen : 32 * (c.map (·.1)).length ≤ 32 * roots.length + rawsL o := GInv.nodup_few (o := o) (P := seedP roots) (l := roots) (fun _ h => h.1) (up_nodup h.fit.up) (fun x hx => hr x ((cntC_pos h.fit).1 hx))
  rw [List.length_map] at hlen
  refine ⟨⟨h.fit, fun x hx => ?_, fun x hx => ?_, by omega⟩, hlen⟩
  · have h3 := h.eq x.1
    have h4 : cntC c x.1 = x.2 := by
      have h5 := hx
      rw [cnt_list h.fit] at h5
      obtain ⟨k, -, rfl⟩ := List.mem_map.1 h5
      rfl
    have h6 : rs.count x.1 ≤ rs.length := List.count_le_length
    have h7 : namesC (kidsO o) c x.1 ≤ (c.map (·.1)).length := by unfold namesC; exact List.length_filter_le _ _
    rw [List.length_map] at h7
    omega
  · have h3 := hr x.1 (hk x hx)
    have := h3.len fun _ h => h.2
    rw [this]; unfold maxLen; omega

/-- What the example's counts are. -/
theorem awk_counts {key : List UInt8} {o : List Snp} (h : AwkT key o) {c : List Cnt} (hc : Counts (kidsO o) [key] c) (hr : ∀ k, cntC c k ≠ 0 → Reached o (seedP [key]) k) : c.length = 3 ∧ cntC c key = 1 ∧ ∀ n c', iterQ (minusS (kidsO o)) n ([key], c) = ([], c') → c' = [] := by
  obtain ⟨rank, hrk⟩ := h.rank
  obtain ⟨hcl1, hcl2⟩ := hc.closed
  have hkeys : ∀ k, cntC c k ≠ 0 ↔ k ∈ namesR o := fun k => by
    constructor
    · intro hk; exact (h.all k).1 (hr k hk)
    · intro hk
      have h1 := (h.all k).2 hk
      refine h1 (fun k => cntC c k ≠ 0) (fun k hs => hcl1 k (by simpa using hs.1)) (fun k y hk hy => hcl2 k y hk hy)
  have hmap : c.map (·.1) = namesR o := up_ext hc.fit.up h.up fun k => by rw [cntC_pos hc.fit, hkeys]
  refine ⟨?_, ?_, fun n c' hi => ?_⟩
  · have := congrArg List.length hmap
    rw [List.length_map, namesR_len, h.len] at this
    exact this
  · have h1 := hc.eq key
    have h2 : namesC (kidsO o) c key = 0 := by
      unfold namesC
      rw [List.length_eq_zero_iff, List.filter_eq_nil_iff]
      intro p hp hk
      rw [hmap] at hp
      have hk2 : key ∈ kidsO o p := by simpa using hk
      have h3 := hrk.less p key hk2
      -- all is of the top's rank at most
      have h4 : ∀ k, Reached o (seedP [key]) k → rank k ≤ rank key := fun k hk => hk (fun k => rank k ≤ rank key) (fun k hs => by rw [show k = key by simpa using hs.1]; exact Nat.le_refl _) (fun k y hk hy => Nat.le_trans (Nat.le_of_lt (hrk.less k y hy)) hk)
      have := h4 p ((h.all p).2 hp)
      omega
    rw [h2] at h1
    simpa using h1
  · have h1 := minus_iter (kids := kidsO o) (kidsO_nodup o) (rs := []) n (s := ([key], c)) (hc.minus_start (r := key) (rs' := []) (fun k => by
      by_cases e : k = key
      · simp [e]
      · simp [e, Ne.symm e]))
    rw [hi] at h1
    have h2 := minus_end h1
    exact h2.unique (Counts.nil _) hrk (fun _ => rfl)

set_option maxHeartbeats 4000000 in
set_option maxRecDepth 100000 in
theorem awake14_walk (w : World) (hT : ErrT w) : Calls Tryz.prog 9 #[] w fun e w' => e = .returned (.bool true) ∧ Below w.heap.size w w' := by
  have HT := Lib.hid hT
  have HB1 := Lib.hid (show Below w.heap.size w (w.alloc (.cells #[.string ⟨#[97]⟩, .bool false, .bool false, .string ⟨#[120]⟩] 65)) from (Below.refl _ _).alloc (Nat.le_refl _) _)
  have hrow : ItRow (w.alloc (.cells #[.string ⟨#[97]⟩, .bool false, .bool false, .string ⟨#[120]⟩] 65)) (.slice (some ⟨w.heap.size, 0, none⟩) 1 1) [itA] := by
    refine ⟨_, _, rfl, Nat.le_refl _, by unfold maxLen; omega, .inr ⟨_, _, rfl, fun j x hj i u hu => ?_⟩⟩
    match j, hj with
    | 0, hj =>
      simp only [List.getElem?_cons_zero, Option.some.injEq] at hj
      subst hj
      match i, hu with
      | 0, hu => cases hu; exact cell_new _ _ _ 0 rfl
      | 1, hu => cases hu; exact cell_new _ _ _ 1 rfl
      | 2, hu => cases hu; exact cell_new _ _ _ 2 rfl
      | 3, hu => cases hu; exact cell_new _ _ _ 3 rfl
  have CB : Calls Tryz.prog 28 #[.agg #[.int .i64 2, .int .i64 4, .int .i64 8], .slice (some ⟨w.heap.size, 0, none⟩) 1 1] _ _ := rbuild12_walk 2 2 4 8 (.slice (some ⟨w.heap.size, 0, none⟩) 1 1) [itA] _ fitA rfl readyA hrow
  have HA := Lib.hid awkA
  change Calls _ _ _ _ (fun e w' => ∃ v', e = .returned (.tuple #[S keyA, v']) ∧ SnpRow w' v' objA ∧ _) at CB
  generalize keyA = key at *
  generalize objA = o at *
  clear hT hrow
  go_enter Tryz.func9, Tryz.ntmps9
  go_wp2_with fail
  refine CB.mono ?_
  rintro e w2 ⟨ov, rfl, ho, hb2⟩
  have HB2 := Lib.hid (below_chain HB1.out hb2 HB1.out.size)
  have HO2 := Lib.hid ho
  have HB3 := Lib.hid (show Below w2.heap.size w2 (w2.alloc (.cells #[S key] 9)) from (Below.refl _ _).alloc (Nat.le_refl _) _)
  have hrow3 : StrRow (w2.alloc (.cells #[S key] 9)) (.slice (some ⟨w2.heap.size, 0, none⟩) 1 1) [key] := row_lit w2 9 [key] (by simp)
  have HBW3 := Lib.hid (below_chain HB2.out HB3.out HB2.out.size)
  have hraw : ∀ x ∈ o, x.2.length ≤ 1000000 := fun x hx => by have := HA.out.raw x hx; omega
  have HRAW := Lib.hid hraw
  have hol : o.length ≤ 1100000 := by have := HA.out.len; omega
  have C1 := countof_walk ov (.slice (some ⟨w2.heap.size, 0, none⟩) 1 1) o [key] 1000 _ (HO2.out.below HB3.out) hrow3 (HT.out.below HBW3.out) HA.out.up hol hraw (by have := HA.out.tot; simp; omega) (by have := HA.out.tot; omega) (by simp)
  obtain ⟨la, lc, rfl, -, -, -⟩ := ho
  clear CB hb2 hrow3 hraw
  go_wp2_with fail
  refine C1.mono ?_
  rintro e w4 ⟨cv, Q, huq, hmq, hb4, hcase⟩
  have hqok : Q.all (okO o) = true := HA.out.ok Q fun x hx => (HA.out.all x).1 ((hmq x).1 hx)
  rcases hcase.symm with ⟨hno, -⟩ | ⟨-, c, rfl, hcr, hcc, hcs⟩
  · rw [hqok] at hno; cases hno
  have HB4 := Lib.hid (below_chain HBW3.out hb4 HBW3.out.size)
  have hfl : [key].filter len32 = [key] := by rw [List.filter_cons_of_pos (by simp [len32, HA.out.key32])]; rfl
  rw [hfl] at hcc
  have HAC := Lib.hid (awk_counts HA.out hcc hcs)
  have HOK := Lib.hid (okC_of hcc hcs (by simp) (by have := HA.out.tot; simp; omega)).1
  have HC4 := Lib.hid hcr
  obtain ⟨ca, cc, rfl⟩ := row_slice hcr
  have HO4 := Lib.hid (HO2.out.below (below_chain HB3.out hb4 HB3.out.size))
  have C2 := cminus_walk _ _ c o key 90000 w4 HC4.out HOK.out HO4.out (HT.out.below HB4.out) HA.out.up hol HRAW.out (by have := HA.out.tot; omega) (by omega) (by rw [HA.out.key32]; unfold maxLen; omega)
  clear C1 huq hmq hb4 hqok hcr hcc hcs hfl
  go_wp2_with fail
  refine C2.mono ?_
  rintro e w5 ⟨dv, d, code, rfl, hdr, hb5, hcase⟩
  have HB5 := Lib.hid (below_chain HB4.out hb5 HB4.out.size)
  obtain ⟨hl3, hk1, hmin⟩ := HAC.out
  rcases hcase.symm with ⟨h0, -, -⟩ | ⟨-, rfl, n, hit⟩
  · rw [hk1] at h0; cases h0
  have hd : d = [] := hmin n d hit
  subst hd
  obtain ⟨da, dc, rfl⟩ := row_slice hdr
  have CNN := cN_walk _ c key w5 (HC4.out.below hb5) (by omega)
  rw [hk1] at CNN
  rw [hl3]
  rw [hl3] at CNN
  clear C2 hdr hb5 hl3 hk1 hmin hit
  go_wp2_with fail
  refine CNN.mono ?_
  rintro e w6 ⟨rfl, hb6⟩
  have HB6 := Lib.hid (below_chain HB5.out hb6 HB5.out.size)
  clear CNN hb6
  go_wp2
  go_ret
  exact ⟨rfl, HB6.out⟩
end Go.Proofs.YtaompdnnkfmjhaaGreatDoor

namespace Go.Proofs.YtaompdnnkfmjhaaGreatDoor
open Go.RowKit

set_option maxHeartbeats 4000000 in
set_option maxRecDepth 100000 in
theorem small14_walk (v : Value) (l : List Snp) (w : World) (hr : SnpRow w v l) (hlm : l.length ≤ 140737488355328) (hrl : ∀ x ∈ l, x.2.length ≤ 140737488355328) :
    Calls Tryz.prog 8 #[v] w (SmallPost l w) := by
  have HR := Lib.hid hr
  have HRL := Lib.hid hrl
  have HNO := Lib.hid (fun (w' : World) (hB : Below w.heap.size w w') => show SmallPost l w (.returned (.bool false)) w' from ⟨false, rfl, (fun h => by cases h), hB⟩)
  obtain ⟨a, c, rfl, hc, hm, hx⟩ := hr
  have HX := Lib.hid hx
  clear hx hrl
  by_cases h120 : 120 < l.length
  · have h1' : (120 : Int) < (l.length : Int) := by omega
    go_enter Tryz.func8, Tryz.ntmps8
    go_wp2
    go_ret
    exact HNO.out _ (Below.refl _ _)
  have h1' : ¬ (120 : Int) < (l.length : Int) := by omega
  have hlen : l.length ≤ 120 := by omega
  have HLEN := Lib.hid hlen
  go_enter Tryz.func8, Tryz.ntmps8
  go_wp2
  go_loopw [3, 11] (fun t i wr => ∃ k tot : Nat, k ≤ l.length ∧ i = .int .i64 k ∧ t = .int .i64 tot ∧ tot ≤ 20000 ∧ tot = rawsL (l.take k) ∧ (∀ x ∈ l.take k, x.2.length ≤ 20000) ∧ Below w.heap.size w wr) (fun _ i _ => l.length - (intOf i).toNat)
  case atStart => exact ⟨0, 0, Nat.zero_le _, rfl, rfl, by omega, by simp [rawsL], by simp, Below.refl _ _⟩
  case round =>
    obtain ⟨k, tot, hk, rfl, rfl, ht, hsum, hall, hB⟩ := hrel
    have HSUM := Lib.hid hsum
    clear hsum
    have HB := Lib.hid hB
    have HALL := Lib.hid hall
    clear hall
    by_cases h2 : k < l.length
    · have h2' : (k : Int) < (l.length : Int) := by omega
      have hx := HX.out
      rcases hx with hx | ⟨b, o, rfl, hx⟩
      · exfalso; rw [hx] at h2; simp at h2
      obtain ⟨hx1, hx2⟩ := snp_cells hx h2
      have hc1 := cell_below hB hx1
      have hc2 := cell_below hB hx2
      have HTK := Lib.hid (List.take_succ_eq_append_getElem h2)
      have hql := HRL.out l[k] (by simp)
      have HSS := Lib.hid (rawsL_step h2)
      clear hx hx1 hx2 hB
      generalize l[k] = y at *
      obtain ⟨p, q⟩ := y
      simp only at hql
      have hw0 : IntKind.i64.wrap ((tot : Int) + (q.length : Int)) = (tot : Int) + (q.length : Int) := by rw [IntKind.wrap_i64]; omega
      by_cases h3 : 20000 < tot + q.length
      · have h3' : (20000 : Int) < (tot : Int) + (q.length : Int) := by omega
        go_wp2
        go_ret
        exact HNO.out _ (HB.out.alloc HB.out.size _)
      have h3' : ¬ (20000 : Int) < (tot : Int) + (q.length : Int) := by omega
      by_cases h4 : 100 < p.length
      · have h4' : (100 : Int) < (p.length : Int) := by omega
        go_wp2
        go_ret
        exact HNO.out _ (HB.out.alloc HB.out.size _)
      have h4' : ¬ (100 : Int) < (p.length : Int) := by omega
      have HQ := Lib.hid (show q.length ≤ 20000 by omega)
      have HT := Lib.hid (show tot + q.length ≤ 20000 by omega)
      clear h3 h4
      go_wp2
      go_roundw
      case rel =>
        refine ⟨k + 1, tot + q.length, by omega, by go_num, by simp, HT.out, by rw [HSS.out, HSUM.out], ?_, HB.out.alloc HB.out.size _⟩
        rw [HTK.out]
        intro x hx
        rcases List.mem_append.1 hx with hx | hx
        · exact HALL.out x hx
        · rw [List.mem_singleton.1 hx]; exact HQ.out
      case measure => simp [intOf]; omega
    · have h2' : ¬ (k : Int) < (l.length : Int) := by omega
      have CF := rfitO_walk (.slice a l.length c) l wr (HR.out.below hB) (by omega)
      obtain ⟨f, hf⟩ : ∃ f, fit5 (namesR l) = f := ⟨_, rfl⟩
      rw [hf] at CF
      have HP := Lib.hid (fun (w' : World) (hB' : Below w.heap.size w w') => show SmallPost l w (.returned (.bool f)) w' from ⟨f, rfl, (fun h => ⟨HLEN.out, by have := HALL.out; rwa [List.take_of_length_le (by omega)] at this, by rw [hf, h], by have h7 := HSUM.out; rw [List.take_of_length_le (by omega)] at h7; omega⟩), hB'⟩)
      clear hf hB
      go_wp2_with fail
      refine CF.mono ?_
      rintro e w2 ⟨rfl, hb2⟩
      have hB2 := below_chain HB.out hb2 HB.out.size
      go_wp2
      go_ret
      exact HP.out _ hB2
end Go.Proofs.YtaompdnnkfmjhaaGreatDoor

namespace Go.Proofs.YtaompdnnkfmjhaaGreatDoor
open Go.RowKit

theorem setOf_step {l : List (List UInt8)} {k : Nat} (h : k < l.length) : setOf (l.take (k + 1)) = if len32 l[k] then addL (setOf (l.take k)) l[k] else setOf (l.take k) := by
  unfold setOf
  rw [List.take_succ_eq_append_getElem h, List.filter_append, List.foldl_append]
  by_cases hk : len32 l[k] = true
  · rw [if_pos hk, List.filter_cons_of_pos hk]; rfl
  · rw [if_neg hk, List.filter_cons_of_neg hk]; rfl

set_option maxHeartbeats 2000000 in
set_option maxRecDepth 100000 in
theorem rof2_walk (v : Value) (l : List (List UInt8)) (w : World) (hr : StrRow w v l) (hcnt : l.length ≤ 1100000) :
    Calls Tryz.prog 33 #[v] w fun e w' => ∃ v', e = .returned v' ∧ w'.ownsRow w.heap.size 9 1 v' (setOf l).length ((setOf l).map S) ∧ Below w.heap.size w w' := by
  obtain ⟨a, c, rfl, hc, hm, hx⟩ := hr
  have HX := Lib.hid hx
  clear hx
  go_enter Tryz.func33, Tryz.ntmps33
  go_wp2
  go_loopw [3, 4] (fun v i wr => ∃ k : Nat, k ≤ l.length ∧ i = .int .i64 k ∧ wr.ownsRow w.heap.size 9 1 v (setOf (l.take k)).length ((setOf (l.take k)).map S) ∧ Below w.heap.size w wr) (fun _ i _ => l.length - (intOf i).toNat)
  case atStart => exact ⟨0, Nat.zero_le _, rfl, World.ownsRow_nil _ _ _ _, Below.refl _ _⟩
  case round =>
    obtain ⟨k, hk, rfl, hrow, hB⟩ := hrel
    have HROW := Lib.hid hrow
    have HB := Lib.hid hB
    clear hrow
    by_cases h1 : k < l.length
    · have h1' : (k : Int) < (l.length : Int) := by omega
      have hx := HX.out
      rcases hx with hx | ⟨b, o, rfl, hx⟩
      · exfalso; rw [hx] at h1; simp at h1
      have hc1 := cell_below hB (str_cell hx h1)
      have HST := Lib.hid (setOf_step h1)
      have hlen : (setOf (l.take k)).length ≤ 1100000 := by
        have := setOf_len (l.take k); rw [List.length_take] at this; omega
      have CA := fun y => radd2_walk u3 (setOf (l.take k)) y wr (StrRow.of_owns HROW.out) hlen (setOf_up _)
      clear hx hlen hB
      generalize l[k] = y at *
      generalize setOf (l.take k) = S0 at *
      by_cases h32 : y.length = 32
      · have hq : ((y.length : Int) == 32) = true := by rw [beq_iff_eq]; omega
        have HS := Lib.hid (show setOf (l.take (k + 1)) = addL S0 y by rw [HST.out, if_pos (by simp [len32, h32])])
        have C := CA y
        clear h32 CA HST
        go_wp2_with fail
        refine C.mono ?_
        rintro e w2 ⟨v2, rfl, hr2, hb2⟩
        have HR2 := Lib.hid (show w2.ownsRow w.heap.size 9 1 v2 (addL S0 y).length ((addL S0 y).map S) by
          rcases hr2 with ⟨h1, rfl⟩ | h
          · rw [h1]; exact own_keep HROW.out (fun g _ h2 => hb2.block g h2)
          · exact own_mono HB.out.size h)
        clear hr2 C hc1
        go_wp2
        go_roundw
        case rel => exact ⟨k + 1, by omega, by go_num, by rw [HS.out]; exact HR2.out, below_chain HB.out hb2 HB.out.size⟩
        case measure => simp [intOf]; omega
      · have hq : ((y.length : Int) == 32) = false := by rw [beq_eq_false_iff_ne]; omega
        have HS := Lib.hid (show setOf (l.take (k + 1)) = S0 by rw [HST.out, if_neg (by simp [len32, h32])])
        clear h32 CA HST
        go_wp2
        go_roundw
        case rel => exact ⟨k + 1, by omega, by go_num, by rw [HS.out]; exact HROW.out, HB.out⟩
        case measure => simp [intOf]; omega
    · have h1' : ¬ (k : Int) < (l.length : Int) := by omega
      rw [List.take_of_length_le (by omega)] at HROW
      go_wp2
      go_ret
      exact ⟨_, rfl, HROW.out, HB.out⟩
theorem rof_walk (v : Value) (l : List (List UInt8)) (w : World) (hr : StrRow w v l) (hcnt : l.length ≤ 1100000) :
    Calls Tryz.prog 33 #[v] w fun e w' => ∃ v', e = .returned v' ∧ StrRow w' v' (setOf l) ∧ Below w.heap.size w w' := by
  refine (rof2_walk v l w hr hcnt).mono ?_
  rintro e w' ⟨v', rfl, h, hb⟩
  exact ⟨v', rfl, StrRow.of_owns h, hb⟩
end Go.Proofs.YtaompdnnkfmjhaaGreatDoor

namespace Go.Proofs.YtaompdnnkfmjhaaGreatDoor
open Go.RowKit

set_option maxHeartbeats 4000000 in
set_option maxRecDepth 100000 in
theorem rkids2_walk (vp ve : Value) (n : Nod) (w : World) (hr : NodRow w n vp ve) (hcnt : n.parts.length + n.ents.length ≤ 1100000) :
    Calls Tryz.prog 14 #[NodV n vp ve] w fun e w' => ∃ v', e = .returned v' ∧ w'.ownsRow w.heap.size 9 1 v' (kidsN n).length ((kidsN n).map S) ∧ Below w.heap.size w w' := by
  obtain ⟨i0, hi, hz0, hz1, hz2⟩ := info_parts infoStr
  obtain ⟨w1, hw1, HB1, HZ⟩ : ∃ w1, w1 = w.alloc (.cells #[.int .i64 n.kind, S n.data, vp, ve] 36) ∧ Hid (Below w.heap.size w w1) ∧ Hid (w1.heap[w.heap.size]? = some (.cells #[.int .i64 n.kind, S n.data, vp, ve] 36 (0, 0))) :=
    ⟨_, rfl, (Below.refl _ _).alloc (Nat.le_refl _) _, heap_alloc_new _ _⟩
  have HR := Lib.hid hr
  obtain ⟨va, vc, rfl⟩ := row_slice hr.parts
  obtain ⟨ua, uc, rfl⟩ := row_slice hr.ents
  obtain ⟨⟨z0, z1, z2, z3⟩, -, -⟩ := box4 HZ.out
  unfold kidsN
  clear hr
  go_enter Tryz.func14, Tryz.ntmps14
  go_upto_region 1 with fail
  rw [← hw1]
  clear hw1
  go_wp2
  go_loopw [3, 4] (fun v i wr => ∃ (k : Nat) (dn : List (List UInt8)), k ≤ n.parts.length ∧ i = .int .i64 k ∧ dn = (n.parts.take k).map (fun p : Prt => p.1) ∧ dn.length = k ∧ wr.ownsRow w1.heap.size 9 1 v dn.length (dn.map S) ∧ Below w1.heap.size w1 wr) (fun _ i _ => n.parts.length - (intOf i).toNat)
  case atStart => exact ⟨0, [], Nat.zero_le _, rfl, rfl, rfl, World.ownsRow_nil _ _ _ _, Below.refl _ _⟩
  case round =>
    obtain ⟨k, dn, hk, rfl, hdn, hdk, hown, hB⟩ := hrel
    have HDN := Lib.hid hdn
    have HDK := Lib.hid hdk
    have hdl : dn.length ≤ 1100000 := by omega
    clear hdn hdk
    have hsz := hB.size
    have hbb := below_chain HB1.out hB HB1.out.size
    have hz2 := (hB.block _ (heap_lt HZ.out)).trans HZ.out
    obtain ⟨⟨y0, y1, y2, y3⟩, -, -⟩ := box4 hz2
    clear hz2
    by_cases hlt : k < n.parts.length
    · have hlt' : (k : Int) < (n.parts.length : Int) := by omega
      obtain ⟨a0, c0, hv, -, -, hx⟩ := HR.out.parts
      obtain ⟨g1, g2⟩ : va = a0 ∧ vc = c0 := by cases hv; exact ⟨rfl, rfl⟩
      subst g1 g2
      clear hv
      rcases hx with hx | ⟨b, o, rfl, hx⟩
      · exfalso; rw [hx] at hlt; simp at hlt
      obtain ⟨hc1, hc2⟩ := prt_cells hx hlt
      replace hc1 := cell_below hbb hc1
      replace hc2 := cell_below hbb hc2
      have HTK := Lib.hid (show dn ++ [n.parts[k].1] = (n.parts.take (k + 1)).map (fun p : Prt => p.1) by rw [List.take_succ_eq_append_getElem hlt, List.map_append, HDN.out]; simp)
      clear hx hbb
      generalize n.parts[k] = y at *
      obtain ⟨key, sz⟩ := y
      simp only at hc1 hc2
      go_wp2_with (at_builtin; refine wpList_append_own _ rfl _ _ 23 rfl w1.heap.size 9 i0 (.string ⟨#[]⟩) 1 16 Tryz.underlying23 hi hz0 hz1 hz2 rfl (by decide) _ _ _ rfl (hown.alloc _) ⟨wr.heap.size, 0, none⟩ 1 1 [S key] rfl rfl (new_cell_at (by simp) _ _) (by intro u hu; simp at hu; subst hu; rfl) (by unfold maxLen; omega) (by omega) (by simp; omega) ?_)
      intro v' w2 hown' hgrow _
      have hB2 : Below w1.heap.size w1 w2 := (hB.alloc hsz _).grown hgrow (by simp; omega) (fun j hj => (hown.lt j hj).1)
      clear hgrow hown hB hc1 hc2
      go_wp2
      go_roundw
      case rel => exact ⟨k + 1, dn ++ [key], by omega, by go_num, HTK.out, by have := HDK.out; simp; omega, by rw [List.length_append, List.map_append]; exact hown', hB2⟩
      case measure => simp [intOf]; omega
    · have hlt' : ¬ (k : Int) < (n.parts.length : Int) := by omega
      obtain rfl : k = n.parts.length := by omega
      have HDN0 := Lib.hid (show dn = n.parts.map (fun p : Prt => p.1) by rw [HDN.out, List.take_of_length_le (Nat.le_refl _)])
      have HDK0 := HDK
      have HO0 := Lib.hid hown
      have HB0 := Lib.hid hB
      obtain ⟨dn0, rfl⟩ : ∃ dn0, dn0 = dn := ⟨_, rfl⟩
      clear hown hB hbb z0 z1 z2 z3 HDN HDK
      go_wp2
      go_loopw [3, 5] (fun v i wr => ∃ (k : Nat) (dn : List (List UInt8)), k ≤ n.ents.length ∧ i = .int .i64 k ∧ dn = n.parts.map (fun p : Prt => p.1) ++ (n.ents.take k).map (fun e : Ent => e.2.2.2) ∧ dn.length = n.parts.length + k ∧ wr.ownsRow w1.heap.size 9 1 v dn.length (dn.map S) ∧ Below w1.heap.size w1 wr) (fun _ i _ => n.ents.length - (intOf i).toNat)
      case atStart => exact ⟨0, dn0, Nat.zero_le _, rfl, by rw [HDN0.out]; simp, by rw [HDK0.out]; rfl, HO0.out, HB0.out⟩
      case round =>
        obtain ⟨k, dn, hk, rfl, hdn, hdk, hown, hB⟩ := hrel
        have HDN := Lib.hid hdn
        have HDK := Lib.hid hdk
        have hdl : dn.length ≤ 1100000 := by omega
        clear hdn hdk
        have hsz := hB.size
        have hbb := below_chain HB1.out hB HB1.out.size
        have hz2 := (hB.block _ (heap_lt HZ.out)).trans HZ.out
        obtain ⟨⟨y0, y1, y2, y3⟩, -, -⟩ := box4 hz2
        clear hz2
        by_cases hlt : k < n.ents.length
        · have hlt' : (k : Int) < (n.ents.length : Int) := by omega
          obtain ⟨a0, c0, hv, -, -, hx⟩ := HR.out.ents
          obtain ⟨g1, g2⟩ : ua = a0 ∧ uc = c0 := by cases hv; exact ⟨rfl, rfl⟩
          subst g1 g2
          clear hv
          rcases hx with hx | ⟨b, o, rfl, hx⟩
          · exfalso; rw [hx] at hlt; simp at hlt
          obtain ⟨hc1, hc2, hc3, hc4⟩ := ent_cells hx hlt
          replace hc1 := cell_below hbb hc1
          replace hc2 := cell_below hbb hc2
          replace hc3 := cell_below hbb hc3
          replace hc4 := cell_below hbb hc4
          have HTK := Lib.hid (show dn ++ [n.ents[k].2.2.2] = n.parts.map (fun p : Prt => p.1) ++ (n.ents.take (k + 1)).map (fun e : Ent => e.2.2.2) by rw [List.take_succ_eq_append_getElem hlt, List.map_append, HDN.out]; simp)
          clear hx hbb
          generalize n.ents[k] = y at *
          obtain ⟨nm, ek, ex, key⟩ := y
          simp only at hc1 hc2 hc3 hc4
          go_wp2_with (at_builtin; refine wpList_append_own _ rfl _ _ 23 rfl w1.heap.size 9 i0 (.string ⟨#[]⟩) 1 16 Tryz.underlying23 hi hz0 hz1 hz2 rfl (by decide) _ _ _ rfl (hown.alloc _) ⟨wr.heap.size, 0, none⟩ 1 1 [S key] rfl rfl (new_cell_at (by simp) _ _) (by intro u hu; simp at hu; subst hu; rfl) (by unfold maxLen; omega) (by omega) (by simp; omega) ?_)
          intro v' w2 hown' hgrow _
          have hB2 : Below w1.heap.size w1 w2 := (hB.alloc hsz _).grown hgrow (by simp; omega) (fun j hj => (hown.lt j hj).1)
          clear hgrow hown hB hc1 hc2 hc3 hc4
          go_wp2
          go_roundw
          case rel => exact ⟨k + 1, dn ++ [key], by omega, by go_num, HTK.out, by have := HDK.out; simp; omega, by rw [List.length_append, List.map_append]; exact hown', hB2⟩
          case measure => simp [intOf]; omega
        · have hlt' : ¬ (k : Int) < (n.ents.length : Int) := by omega
          obtain rfl : k = n.ents.length := by omega
          have HTL := Lib.hid (show dn = kidsL n by rw [HDN.out, List.take_of_length_le (Nat.le_refl _)]; rfl)
          have C := rof2_walk _ dn wr (StrRow.of_owns hown) hdl
          rw [HTL.out] at C
          have HBB := Lib.hid hbb
          clear hown hB hbb
          go_wp2_with fail
          refine C.mono ?_
          rintro e w3 ⟨v3, rfl, hr3, hb3⟩
          have HR3 := Lib.hid hr3
          clear hr3 C
          go_wp2
          go_ret
          exact ⟨_, rfl, own_mono HBB.out.size HR3.out, below_chain HBB.out hb3 HBB.out.size⟩
theorem rkids_walk (vp ve : Value) (n : Nod) (w : World) (hr : NodRow w n vp ve) (hcnt : n.parts.length + n.ents.length ≤ 1100000) :
    Calls Tryz.prog 14 #[NodV n vp ve] w fun e w' => ∃ v', e = .returned v' ∧ StrRow w' v' (kidsN n) ∧ Below w.heap.size w w' := by
  refine (rkids2_walk vp ve n w hr hcnt).mono ?_
  rintro e w' ⟨v', rfl, h, hb⟩
  exact ⟨v', rfl, StrRow.of_owns h, hb⟩
end Go.Proofs.YtaompdnnkfmjhaaGreatDoor

namespace Go.Proofs.YtaompdnnkfmjhaaGreatDoor
open Go.RowKit

theorem wrap_acc {acc c e : Nat} (h : acc + c % 128 * 2 ^ e < 2 ^ 64) : IntKind.u64.wrap ((acc : Int) + IntKind.u64.wrap ((c : Int) % 128 * 2 ^ e)) = ((acc + c % 128 * 2 ^ e : Nat) : Int) := by
  have h1 : (c : Int) % 128 * 2 ^ e = ((c % 128 * 2 ^ e : Nat) : Int) := by push_cast; rfl
  rw [h1]
  generalize c % 128 * 2 ^ e = m at *
  rw [IntKind.wrap_u64, IntKind.wrap_u64]
  omega

set_option maxHeartbeats 2000000 in
set_option maxRecDepth 100000 in
theorem r01take_walk (l : List UInt8) (w : World) :
    Calls Tryz.prog 35 #[S l] w fun e w' => e = .returned (.tuple #[.int .u64 ((takeV l).1 : Nat), .int .i64 ((takeV l).2.1 : Nat), .int .i64 (takeV l).2.2]) ∧ w' = w := by
  have HV := Lib.hid (show takeV l = takeGo 0 0 (l.drop 0) from rfl)
  generalize takeV l = tv at *
  go_enter Tryz.func35, Tryz.ntmps35
  go_wp2
  go_loopw [5, 6, 7] (fun n i _ wr => wr = w ∧ ∃ k acc : Nat, k ≤ 9 ∧ acc < 2 ^ (7 * k) ∧ i = .int .i64 k ∧ n = .int .u64 acc ∧ tv = takeGo k acc (l.drop k)) (fun _ i _ _ => 10 - (intOf i).toNat)
  case atStart => exact ⟨rfl, 0, 0, by omega, by simp, rfl, rfl, HV.out⟩
  case round =>
    obtain ⟨rfl, k, acc, hk, ha, rfl, rfl, ht⟩ := hrel
    have h10 : (k : Int) < 10 := by omega
    by_cases h1 : k < l.length
    · have h1' : ¬ (l.length : Int) ≤ (k : Int) := by omega
      have HT := Lib.hid (ht.trans (takeGo_at h1))
      clear ht
      obtain ⟨c, hcd⟩ : ∃ c, c = l[k].toNat := ⟨_, rfl⟩
      have hc : (({ data := l.toArray } : ByteArray)[k]'h1).toNat = c := hcd.symm
      have hc8 : c < 256 := by rw [hcd]; exact UInt8.toNat_lt _
      rw [← hcd] at HT
      clear hcd
      by_cases h9 : k = 9 ∧ 1 < c
      · have e1 : ((k : Int) == 9) = true := by rw [beq_iff_eq]; omega
        have e2 : (1 : Int) < (c : Int) := by omega
        have HT' := Lib.hid (HT.out.trans (if_pos h9))
        clear HT h9
        go_wp2
        go_ret3
        exact ⟨by rw [HT'.out]; rfl, rfl⟩
      · have hb := acc_bound (d := c % 128) hk ha (by omega) (by intro e; have : ¬ 1 < c := fun hh => h9 ⟨e, hh⟩; omega)
        have HT' := Lib.hid (HT.out.trans (if_neg h9))
        clear HT
        by_cases h128 : c < 128
        · have HT2 := Lib.hid (HT'.out.trans (if_pos h128))
          clear HT'
          by_cases hz : c = 0 ∧ 0 < k
          · have HT3 := Lib.hid (HT2.out.trans (if_pos hz))
            obtain ⟨rfl, hz2⟩ := hz
            have hz3 : (0 : Int) < (k : Int) := by omega
            have h128' : ((0 : Nat) : Int) < 128 := by omega
            by_cases hk9 : k = 9
            · subst hk9
              go_wp2
              go_ret3
              exact ⟨by rw [HT3.out]; rfl, rfl⟩
            · have e1 : ((k : Int) == 9) = false := by rw [beq_eq_false_iff_ne]; omega
              go_wp2
              go_ret3
              exact ⟨by rw [HT3.out]; rfl, rfl⟩
          · have HT3 := Lib.hid (HT2.out.trans (if_neg hz))
            have h128' : (c : Int) < 128 := by omega
            have HW := Lib.hid (wrap_acc hb.1)
            by_cases hk9 : k = 9
            · have hc1 : c = 1 := by
                have h2 : ¬ 1 < c := fun hh => h9 ⟨hk9, hh⟩
                have h3 : ¬ c = 0 := fun hh => hz ⟨hh, by omega⟩
                omega
              have HB := Lib.hid hb.1
              clear h9 hz hb h128' h128 hc8 HW
              subst hk9 hc1
              go_wp2
              go_ret3
              have := HB.out
              refine ⟨?_, rfl⟩
              rw [HT3.out]
              simp at this ⊢
            · have e1 : ((k : Int) == 9) = false := by rw [beq_eq_false_iff_ne]; omega
              by_cases hz0 : c = 0
              · have hz2 : k = 0 := by omega
                clear h9 hz hb h128' h128 hc8 HW hk9 e1
                subst hz2 hz0
                have ha0 : acc = 0 := by simpa using ha
                subst ha0
                have hne : ¬ l = [] := by rintro rfl; simp at h1
                go_wp2
                go_ret3
                exact ⟨by rw [HT3.out]; rfl, rfl⟩
              · have hz1 : ((c : Int) == 0) = false := by rw [beq_eq_false_iff_ne]; omega
                clear h9 hz hb h128
                go_wp2
                go_ret3
                exact ⟨by rw [HT3.out, ← HW.out]; go_num, rfl⟩
        · have HT2 := Lib.hid (HT'.out.trans (if_neg h128))
          have hk9 : k < 9 := by
            rcases Nat.lt_or_ge k 9 with hi | hi
            · exact hi
            · exfalso; exact h9 ⟨by omega, by omega⟩
          have e1 : ((k : Int) == 9) = false := by rw [beq_eq_false_iff_ne]; omega
          have e3 : ¬ (c : Int) < 128 := by omega
          clear h9
          go_wp2
          go_roundw
          case rel => refine ⟨trivial, k + 1, _, by omega, hb.2.2 hk9, by go_num, by rw [wrap_acc hb.1], HT2.out⟩
          case measure => simp [intOf]; omega
    · have h1' : (l.length : Int) ≤ (k : Int) := by omega
      have HT := Lib.hid (ht.trans (takeGo_end (by omega)))
      clear ht
      go_wp2
      go_ret3
      exact ⟨by rw [HT.out]; rfl, rfl⟩

set_option maxHeartbeats 1100000 in
set_option maxRecDepth 100000 in
theorem r01taketext_walk (l : List UInt8) (w : World) (hl : l.length ≤ 1100000) :
    Calls Tryz.prog 61 #[S l] w fun e w' => e = .returned (.tuple #[S (takeText l).1, .int .i64 ((takeText l).2.1 : Nat), .int .i64 (takeText l).2.2]) ∧ w' = w := by
  have C := r01take_walk l w
  have HT := Lib.hid (show takeText l = if (takeV l).2.2 ≠ 0 then ([], 0, (takeV l).2.2) else if 65536 < (takeV l).1 then ([], 0, 4) else if l.length - (takeV l).2.1 < (takeV l).1 then ([], 0, 1) else (cutL l (takeV l).2.1 ((takeV l).2.1 + (takeV l).1), (takeV l).2.1 + (takeV l).1, 0) from rfl)
  have hok := takeV_ok (l := l)
  generalize takeText l = tt at *
  generalize takeV l = tv at *
  obtain ⟨n, k, e⟩ := tv
  simp only at C HT hok
  by_cases he : e = 0
  · subst he
    obtain ⟨h1, h2, h3⟩ := hok rfl
    have HT1 := Lib.hid (HT.out.trans (if_neg (by simp)))
    clear hok HT
    by_cases h4 : 65536 < n
    · have HT2 := Lib.hid (HT1.out.trans (if_pos h4))
      have h4' : (65536 : Int) < (n : Int) := by omega
      go_enter Tryz.func61, Tryz.ntmps61
      go_wp2_with (go_at_call 35; refine C.mono ?_; rintro e w1 ⟨rfl, rfl⟩)
      go_ret3
      exact ⟨by rw [HT2.out]; rfl, rfl⟩
    · have HT2 := Lib.hid (HT1.out.trans (if_neg h4))
      have h4' : ¬ (65536 : Int) < (n : Int) := by omega
      by_cases h5 : l.length - k < n
      · have HT3 := Lib.hid (HT2.out.trans (if_pos h5))
        have h5' : (l.length : Int) - (k : Int) < (n : Int) := by omega
        go_enter Tryz.func61, Tryz.ntmps61
        go_wp2_with (go_at_call 35; refine C.mono ?_; rintro e w1 ⟨rfl, rfl⟩)
        go_ret3
        exact ⟨by rw [HT3.out]; rfl, rfl⟩
      · have HT3 := Lib.hid (HT2.out.trans (if_neg h5))
        have h5' : ¬ (l.length : Int) - (k : Int) < (n : Int) := by omega
        have h6 : k + n ≤ l.length := by omega
        have h6' : (k : Int) + (n : Int) ≤ (l.length : Int) := by omega
        go_enter Tryz.func61, Tryz.ntmps61
        go_wp2_with (go_at_call 35; refine C.mono ?_; rintro e w1 ⟨rfl, rfl⟩)
        go_ret3
        exact ⟨by rw [HT3.out, ← S_extract]; rfl, rfl⟩
  · have HT1 := Lib.hid (HT.out.trans (if_pos he))
    have he' : (e == 0) = false := by rw [beq_eq_false_iff_ne]; exact he
    have he2 : (e != 0) = true := by rw [bne_iff_ne]; exact he
    go_enter Tryz.func61, Tryz.ntmps61
    go_wp2_with (go_at_call 35; refine C.mono ?_; rintro e w1 ⟨rfl, rfl⟩)
    go_ret3
    exact ⟨by rw [HT1.out]; rfl, rfl⟩
end Go.Proofs.YtaompdnnkfmjhaaGreatDoor
