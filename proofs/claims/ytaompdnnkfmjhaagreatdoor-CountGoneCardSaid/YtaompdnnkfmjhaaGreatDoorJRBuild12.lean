/- The reference's Build of a tree. Chapter 14's example. -/
import Derived.Test.YtaompdnnkfmjhaaGreatDoorRDir12
import Derived.Test.YtaompdnnkfmjhaaGreatDoorJCPlus
import Derived.Test.YtaompdnnkfmjhaaGreatDoorJNodesW
namespace Go.Proofs.YtaompdnnkfmjhaaGreatDoor
open Go.RowKit

theorem among_nil (ks : List (List UInt8)) : Among ks [] := ⟨rfl, by simp [namesR]⟩
set_option maxHeartbeats 2000000 in
set_option maxRecDepth 100000 in
theorem rbuild12_walk (x k y z : Nat) (iv : Value) (items : List Itm) (w : World) (hf : FitC x k z) (hpk : 2 ^ k = y) (hrd : Ready (piecesC x k z) items) (hir : ItRow w iv items) :
    Calls Tryz.prog 28 #[PrmV x y z, iv] w fun e w' => ∃ v', e = .returned (.tuple #[S (keyN (dirN (piecesC x k z) items 9 [])), v']) ∧ SnpRow w' v' (dirO (piecesC x k z) items 9 [] []) ∧ Below w.heap.size w w' := by
  obtain ⟨w1, hw1, hb1, hc⟩ : ∃ w1, w1 = w.alloc (.cells #[.int .i64 (x : Nat), .int .i64 (y : Nat), .int .i64 (z : Nat)] 51) ∧ Below w.heap.size w w1 ∧ w1.heap[w.heap.size]? = some (.cells #[.int .i64 (x : Nat), .int .i64 (y : Nat), .int .i64 (z : Nat)] 51 (0, 0)) :=
    ⟨_, rfl, (Below.refl _ _).alloc (Nat.le_refl _) _, heap_alloc_new _ _⟩
  have c0 := heap_cell hc (j := 0) (v := .int .i64 (x : Nat)) rfl
  have c1 := heap_cell hc (j := 1) (v := .int .i64 (y : Nat)) rfl
  have c2 := heap_cell hc (j := 2) (v := .int .i64 (z : Nat)) rfl
  have CD := rdir12_walk x k y z iv items hf hpk hrd 9 0 (.slice none 0 0) [] [] w1 (hir.below hb1) (Row.nil _ _) (by omega) rfl (.inl rfl) (among_nil _)
  have HB1 := Lib.hid hb1
  generalize keyN (dirN (piecesC x k z) items 9 []) = kk at *
  generalize dirO (piecesC x k z) items 9 [] [] = oo at *
  obtain ⟨ia, ic, rfl⟩ := row_slice hir
  clear hc hb1 hir hrd hf hpk
  go_enter Tryz.func28, Tryz.ntmps28
  go_upto_region 1 with fail
  rw [← hw1]
  clear hw1
  go_wp2_with fail
  refine CD.mono ?_
  rintro e w2 ⟨v2, rfl, hg2, hb2⟩
  have HR2 := Lib.hid (hg2.row (Row.nil _ _) hb2)
  have HB2 := Lib.hid (below_chain HB1.out hb2 HB1.out.size)
  clear CD hg2 hb2
  go_wp2
  go_ret2
  exact ⟨_, rfl, HR2.out, HB2.out⟩
end Go.Proofs.YtaompdnnkfmjhaaGreatDoor

namespace Go.Proofs.YtaompdnnkfmjhaaGreatDoor
open Go.RowKit

/-- Counts of some roots can be handed on. -/
theorem okC_of {o : List Snp} {rs roots : List (List UInt8)} {c : List Cnt} (h : Counts (kidsO o) rs c) (hr : ∀ k, cntC c k ≠ 0 → Reached o (seedP roots) k) (h1 : rs.length ≤ 1000000) (h2 : 32 * roots.length + rawsL o ≤ 32 * 900000) : OkC c ∧ (32 * c.length ≤ 32 * roots.length + rawsL o) := by
  have hk : ∀ x ∈ c, cntC c x.1 ≠ 0 := fun x hx => (cntC_pos h.fit).1 (List.mem_map.2 ⟨x, hx, rfl⟩)
  have hlen : 32 * (c.map (·.1)).length ≤ 32 * roots.length + rawsL o := GInv.nodup_few (o := o) (P := seedP roots) (l := roots) (fun _ h => h.1) (up_nodup h.fit.up) (fun x hx => hr x ((cntC_pos h.fit).1 hx))
  rw [List.length_map] at hlen
  refine ⟨⟨h.fit, fun x hx => ?_, fun x hx => ?_, by omega⟩, hlen⟩
  · have h3 := h.eq x.1
    have h4 : cntC c x.1 = x.2 := by
      have h5 := hx
      rw [cnt_list h.fit] at h5
      obtain ⟨k, -, rfl⟩ := List.mem_map.1 h5
      rfl
    have h6 : rs.count x.1 ≤ rs.length := List.count_le_length
    have h7 : namesC (kidsO o) c x.1 ≤ (c.map (·.1)).length := by unfold namesC; exact List.length_filter_le _ _
    rw [List.length_map] at h7
    omega
  · have h3 := hr x.1 (hk x hx)
    have := h3.len fun _ h => h.2
    rw [this]; unfold maxLen; omega

/-- What the example's counts are. -/
theorem awk_counts {key : List UInt8} {o : List Snp} (h : AwkT key o) {c : List Cnt} (hc : Counts (kidsO o) [key] c) (hr : ∀ k, cntC c k ≠ 0 → Reached o (seedP [key]) k) : c.length = 3 ∧ cntC c key = 1 ∧ ∀ n c', iterQ (minusS (kidsO o)) n ([key], c) = ([], c') → c' = [] := by
  obtain ⟨rank, hrk⟩ := h.rank
  obtain ⟨hcl1, hcl2⟩ := hc.closed
  have hkeys : ∀ k, cntC c k ≠ 0 ↔ k ∈ namesR o := fun k => by
    constructor
    · intro hk; exact (h.all k).1 (hr k hk)
    · intro hk
      have h1 := (h.all k).2 hk
      refine h1 (fun k => cntC c k ≠ 0) (fun k hs => hcl1 k (by simpa using hs.1)) (fun k y hk hy => hcl2 k y hk hy)
  have hmap : c.map (·.1) = namesR o := up_ext hc.fit.up h.up fun k => by rw [cntC_pos hc.fit, hkeys]
  refine ⟨?_, ?_, fun n c' hi => ?_⟩
  · have := congrArg List.length hmap
    rw [List.length_map, namesR_len, h.len] at this
    exact this
  · have h1 := hc.eq key
    have h2 : namesC (kidsO o) c key = 0 := by
      unfold namesC
      rw [List.length_eq_zero_iff, List.filter_eq_nil_iff]
      intro p hp hk
      rw [hmap] at hp
      have hk2 : key ∈ kidsO o p := by simpa using hk
      have h3 := hrk.less p key hk2
      -- all is of the top's rank at most
      have h4 : ∀ k, Reached o (seedP [key]) k → rank k ≤ rank key := fun k hk => hk (fun k => rank k ≤ rank key) (fun k hs => by rw [show k = key by simpa using hs.1]; exact Nat.le_refl _) (fun k y hk hy => Nat.le_trans (Nat.le_of_lt (hrk.less k y hy)) hk)
      have := h4 p ((h.all p).2 hp)
      omega
    rw [h2] at h1
    simpa using h1
  · have h1 := minus_iter (kids := kidsO o) (kidsO_nodup o) (rs := []) n (s := ([key], c)) (hc.minus_start (r := key) (rs' := []) (fun k => by
      by_cases e : k = key
      · simp [e]
      · simp [e, Ne.symm e]))
    rw [hi] at h1
    have h2 := minus_end h1
    exact h2.unique (Counts.nil _) hrk (fun _ => rfl)

set_option maxHeartbeats 4000000 in
set_option maxRecDepth 100000 in
theorem awake14_walk (w : World) (hT : ErrT w) : Calls Tryz.prog 9 #[] w fun e w' => e = .returned (.bool true) ∧ Below w.heap.size w w' := by
  have HT := Lib.hid hT
  have HB1 := Lib.hid (show Below w.heap.size w (w.alloc (.cells #[.string ⟨#[97]⟩, .bool false, .bool false, .string ⟨#[120]⟩] 65)) from (Below.refl _ _).alloc (Nat.le_refl _) _)
  have hrow : ItRow (w.alloc (.cells #[.string ⟨#[97]⟩, .bool false, .bool false, .string ⟨#[120]⟩] 65)) (.slice (some ⟨w.heap.size, 0, none⟩) 1 1) [itA] := by
    refine ⟨_, _, rfl, Nat.le_refl _, by unfold maxLen; omega, .inr ⟨_, _, rfl, fun j x hj i u hu => ?_⟩⟩
    match j, hj with
    | 0, hj =>
      simp only [List.getElem?_cons_zero, Option.some.injEq] at hj
      subst hj
      match i, hu with
      | 0, hu => cases hu; exact cell_new _ _ _ 0 rfl
      | 1, hu => cases hu; exact cell_new _ _ _ 1 rfl
      | 2, hu => cases hu; exact cell_new _ _ _ 2 rfl
      | 3, hu => cases hu; exact cell_new _ _ _ 3 rfl
  have CB : Calls Tryz.prog 28 #[.agg #[.int .i64 2, .int .i64 4, .int .i64 8], .slice (some ⟨w.heap.size, 0, none⟩) 1 1] _ _ := rbuild12_walk 2 2 4 8 (.slice (some ⟨w.heap.size, 0, none⟩) 1 1) [itA] _ fitA rfl readyA hrow
  have HA := Lib.hid awkA
  change Calls _ _ _ _ (fun e w' => ∃ v', e = .returned (.tuple #[S keyA, v']) ∧ SnpRow w' v' objA ∧ _) at CB
  generalize keyA = key at *
  generalize objA = o at *
  clear hT hrow
  go_enter Tryz.func9, Tryz.ntmps9
  go_wp2_with fail
  refine CB.mono ?_
  rintro e w2 ⟨ov, rfl, ho, hb2⟩
  have HB2 := Lib.hid (below_chain HB1.out hb2 HB1.out.size)
  have HO2 := Lib.hid ho
  have HB3 := Lib.hid (show Below w2.heap.size w2 (w2.alloc (.cells #[S key] 9)) from (Below.refl _ _).alloc (Nat.le_refl _) _)
  have hrow3 : StrRow (w2.alloc (.cells #[S key] 9)) (.slice (some ⟨w2.heap.size, 0, none⟩) 1 1) [key] := row_lit w2 9 [key] (by simp)
  have HBW3 := Lib.hid (below_chain HB2.out HB3.out HB2.out.size)
  have hraw : ∀ x ∈ o, x.2.length ≤ 1000000 := fun x hx => by have := HA.out.raw x hx; omega
  have HRAW := Lib.hid hraw
  have hol : o.length ≤ 1100000 := by have := HA.out.len; omega
  have C1 := countof_walk ov (.slice (some ⟨w2.heap.size, 0, none⟩) 1 1) o [key] 1000 _ (HO2.out.below HB3.out) hrow3 (HT.out.below HBW3.out) HA.out.up hol hraw (by have := HA.out.tot; simp; omega) (by have := HA.out.tot; omega) (by simp)
  obtain ⟨la, lc, rfl, -, -, -⟩ := ho
  clear CB hb2 hrow3 hraw
  go_wp2_with fail
  refine C1.mono ?_
  rintro e w4 ⟨cv, Q, huq, hmq, hb4, hcase⟩
  have hqok : Q.all (okO o) = true := HA.out.ok Q fun x hx => (HA.out.all x).1 ((hmq x).1 hx)
  rcases hcase.symm with ⟨hno, -⟩ | ⟨-, c, rfl, hcr, hcc, hcs⟩
  · rw [hqok] at hno; cases hno
  have HB4 := Lib.hid (below_chain HBW3.out hb4 HBW3.out.size)
  have hfl : [key].filter len32 = [key] := by rw [List.filter_cons_of_pos (by simp [len32, HA.out.key32])]; rfl
  rw [hfl] at hcc
  have HAC := Lib.hid (awk_counts HA.out hcc hcs)
  have HOK := Lib.hid (okC_of hcc hcs (by simp) (by have := HA.out.tot; simp; omega)).1
  have HC4 := Lib.hid hcr
  obtain ⟨ca, cc, rfl⟩ := row_slice hcr
  have HO4 := Lib.hid (HO2.out.below (below_chain HB3.out hb4 HB3.out.size))
  have C2 := cminus_walk _ _ c o key 90000 w4 HC4.out HOK.out HO4.out (HT.out.below HB4.out) HA.out.up hol HRAW.out (by have := HA.out.tot; omega) (by omega) (by rw [HA.out.key32]; unfold maxLen; omega)
  clear C1 huq hmq hb4 hqok hcr hcc hcs hfl
  go_wp2_with fail
  refine C2.mono ?_
  rintro e w5 ⟨dv, d, code, rfl, hdr, hb5, hcase⟩
  have HB5 := Lib.hid (below_chain HB4.out hb5 HB4.out.size)
  obtain ⟨hl3, hk1, hmin⟩ := HAC.out
  rcases hcase.symm with ⟨h0, -, -⟩ | ⟨-, rfl, n, hit⟩
  · rw [hk1] at h0; cases h0
  have hd : d = [] := hmin n d hit
  subst hd
  obtain ⟨da, dc, rfl⟩ := row_slice hdr
  have CNN := cN_walk _ c key w5 (HC4.out.below hb5) (by omega)
  rw [hk1] at CNN
  rw [hl3]
  rw [hl3] at CNN
  clear C2 hdr hb5 hl3 hk1 hmin hit
  go_wp2_with fail
  refine CNN.mono ?_
  rintro e w6 ⟨rfl, hb6⟩
  have HB6 := Lib.hid (below_chain HB5.out hb6 HB5.out.size)
  clear CNN hb6
  go_wp2
  go_ret
  exact ⟨rfl, HB6.out⟩
end Go.Proofs.YtaompdnnkfmjhaaGreatDoor
