/- The program's Drop on trees that are kept. -/
import Derived.Test.YtmlahfmcccpgjaaP18
import Derived.Test.YtmlahfmcccpgjaaCloSnap
import Derived.Test.YtmlahfmcccpgjaaDelSnap
import Derived.Shelf.RegionOpen
namespace Go.Proofs.Ytmlahfmcccpgjaa
open Go.RowKit

set_option maxHeartbeats 400000 in
theorem drop1_walk (x : Snp) (n : List UInt8) (b : Nat) (w : World) (hc : w.cell? ⟨b, 0, none⟩ = some (S n)) :
    Calls Try.prog 51 (#[SnpV x] ++ #[.pointer (some ⟨b, 0, none⟩)]) w fun e w' => e = .returned (.bool (x.1 == n)) ∧ Below w.heap.size w w' := by
  obtain ⟨p, q⟩ := x
  have hc2 := cell_old hc (.cells #[S p, S q] 31)
  have hbl := lt_of_cell hc
  show Calls Try.prog _ #[.agg #[S p, S q], .pointer (some ⟨b, 0, none⟩)] _ _
  go_enter Try.func51, Try.ntmps51
  go_wp2
  go_ret
  exact ⟨rfl, (Below.refl _ _).alloc (Nat.le_refl _) _⟩

theorem flat_one (l : List Snp) : ∀ u ∈ l.flatMap snpC, u.oneCell' = true := by
  intro u hu
  obtain ⟨x, _, hx⟩ := List.mem_flatMap.1 hu
  simp at hx
  rcases hx with rfl | rfl <;> rfl
theorem row_flat {w : World} {a : Option Addr} {c : Nat} {l : List Snp} (hr : SnpRow w (.slice a l.length c) l) : l.flatMap snpC = [] ∨ ∃ b o, a = some ⟨b, o, none⟩ ∧ ∀ j u, (l.flatMap snpC)[j]? = some u → w.cell? ⟨b, o + j, none⟩ = some u := by
  obtain ⟨a', c', hv, _, _, hx⟩ := hr
  cases hv
  rcases hx with hx | ⟨b, o, ha, hx⟩
  · exact .inl (by rw [hx]; rfl)
  · refine .inr ⟨b, o, ha, fun j u hj => ?_⟩
    have hlt : j < (l.flatMap snpC).length := (List.getElem?_eq_some_iff.1 hj).1
    rw [flat_len] at hlt
    have hk : j / 2 < l.length := by omega
    have h1 := hx (j / 2) l[j / 2] (by simp [hk]) (j % 2)
    have h2 := flat_at l (j / 2) l[j / 2] (j % 2)
    have e : j / 2 * (snpC l[j / 2]).length + j % 2 = j := by simp; omega
    have e2 : o + j / 2 * (snpC l[j / 2]).length + j % 2 = o + j := by simp; omega
    have h3 : j % 2 = 0 ∨ j % 2 = 1 := by omega
    have h4 : ∃ v, (snpC l[j / 2])[j % 2]? = some v := by rcases h3 with h | h <;> rw [h] <;> exact ⟨_, rfl⟩
    obtain ⟨v, hv⟩ := h4
    have h5 := h2 v (by simp [hk]) hv
    rw [e, hj] at h5
    cases h5
    have h6 := h1 u hv
    rwa [e2] at h6

set_option maxHeartbeats 1000000 in
set_option maxRecDepth 100000 in
theorem pdrop_walk (v : Value) (l : List Snp) (n : List UInt8) (w : World) (hr : SnpRow w v l) (hcnt : l.length ≤ 1000000) (hup : upS (namesR l)) :
    Calls Try.prog 18 #[v, S n] w fun e w' => ∃ v', e = .returned (.tuple #[v', .int .i64 (dropE l n).2]) ∧ SnpRow w' v' (dropE l n).1 ∧ Below w.heap.size w w' := by
  have hB1 : Below w.heap.size w (w.alloc (.cells #[S n] 9)) := (Below.refl _ _).alloc (Nat.le_refl _) _
  have hr1 := hr.below hB1
  have C := pat_walk v l n _ hr1 hcnt hup
  have hcn := cell_new w #[S n] 9 0 rfl
  have hpp : posL (l.map (·.1)) n = posL (namesR l) n := rfl
  rw [hpp] at C
  have hdd : decide (n ∈ l.map (·.1)) = decide (n ∈ namesR l) := rfl
  rw [hdd] at C
  have hdl : dropL1 l n = l.filter (fun x => !(x.1 == n)) := rfl
  have HD := Lib.hid (show dropE l n = if (findR l n).isSome then (dropL1 l n, 0) else (l, 5) from rfl)
  generalize dropE l n = de at *
  generalize posL (namesR l) n = k at *
  by_cases hin : n ∈ namesR l
  · obtain ⟨hk, hf⟩ := findR_pos hup hin
    have HD1 := Lib.hid (HD.out.trans (if_pos (by rw [hf]; rfl)))
    have hin2 : decide (n ∈ namesR l) = true := by simpa using hin
    rw [hin2] at C
    clear hf hin hin2 hpp hdd hup HD hk
    obtain ⟨a, c, rfl, hc, hm, hx⟩ := hr
    have HR1 := Lib.hid hr1
    have HDL := Lib.hid hdl
    clear hdl hx hr1
    go_enter Try.func18, Try.ntmps18
    go_wp2_with fail
    refine C.mono ?_
    rintro e w1 ⟨rfl, hb⟩
    have hB2 := below_chain hB1 hb (by simp)
    have hr2 := HR1.out.below hb
    have hcn2 := cell_below hb hcn
    have hsz1 : w.heap.size + 1 ≤ w1.heap.size := by have := hb.size; simpa using this
    go_wp2_with fail
    refine (cloSnap_walk (w.heap.size + 1) a l.length c (l.flatMap snpC) w1 hsz1 hcnt (flat_len l) (row_flat hr2) (flat_one l)).mono ?_
    rintro e w2 ⟨v2, rfl, hown2, hb2⟩
    have hcn3 := (hb2.cell (p := ⟨w.heap.size, 0, none⟩) (by simp)).trans hcn2
    have hsz2 : w.heap.size + 1 ≤ w2.heap.size := by have := hb2.size; omega
    have hB3 : Below w.heap.size w w2 := hB2.trans (hb2.mono (by omega))
    have hrow2 := Row.of_owns hown2
    have hdel := delSnap_walk 51 #[.pointer (some ⟨w.heap.size, 0, none⟩)] (fun x => x.1 == n) (w.heap.size + 1) v2 l w2 hown2 hcnt hsz2 (enters_of Try.func51 (by kernel_rfl) rfl) hrow2
      (fun x w' h => drop1_walk x n w.heap.size w' ((h.cell (p := ⟨w.heap.size, 0, none⟩) (by simp)).trans hcn3))
    have HDEL := Lib.hid hdel
    clear hdel hown2 hrow2
    go_wp2_with fail
    refine HDEL.out.mono ?_
    rintro e w3 ⟨v3, rfl, hown3, hb3⟩
    have HO := Lib.hid (Row.of_owns hown3)
    clear hown3
    go_wp2
    go_ret2
    exact ⟨_, by rw [HD1.out]; rfl, by rw [HD1.out]; simp only; rw [HDL.out]; exact HO.out, hB3.trans (hb3.mono (by omega))⟩
  · have HD1 := Lib.hid (HD.out.trans (if_neg (by rw [findR_none hin]; simp)))
    have hin2 : decide (n ∈ namesR l) = false := by simpa using hin
    rw [hin2] at C
    have HR1 := Lib.hid hr1
    clear hin hin2 hpp hdd hup HD hr1 hdl
    go_enter Try.func18, Try.ntmps18
    go_wp2_with (go_at_call 47; refine (C).mono ?_; rintro e w1 ⟨rfl, hb⟩)
    go_ret2
    exact ⟨_, by rw [HD1.out]; rfl, by rw [HD1.out]; exact HR1.out.below hb, below_chain hB1 hb (by simp)⟩
end Go.Proofs.Ytmlahfmcccpgjaa
