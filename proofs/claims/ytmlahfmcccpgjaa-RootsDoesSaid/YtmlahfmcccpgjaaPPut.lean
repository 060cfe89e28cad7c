/- The program's Put on trees that are kept. -/
import Derived.Test.YtmlahfmcccpgjaaPDrop
import Derived.Test.YtmlahfmcccpgjaaInsSnap
import Derived.Test.YtmlahfmcccpgjaaAny
namespace Go.Proofs.Ytmlahfmcccpgjaa
open Go.RowKit

theorem takeWhile_len {α : Type} (p : α → Bool) (l : List α) : l.take (l.takeWhile p).length = l.takeWhile p ∧ l.drop (l.takeWhile p).length = l.dropWhile p := by
  have h := List.takeWhile_append_dropWhile (p := p) (l := l)
  generalize l.takeWhile p = A at *
  generalize l.dropWhile p = D at *
  subst h
  simp
theorem insR_pos {l : List Snp} {x : Snp} (h : x.1 ∉ namesR l) : insR l x = l.take (posL (namesR l) x.1) ++ x :: l.drop (posL (namesR l) x.1) := by
  have hc : ∀ y ∈ l, (fun y : Snp => decide (y.1 < x.1)) y = (fun y : Snp => !decide (x.1 < y.1)) y := by
    intro y hy
    have hne : y.1 ≠ x.1 := by rintro e; exact h (e ▸ List.mem_map_of_mem hy)
    rcases lt_or_eq_or_gt y.1 x.1 with h1 | h1 | h1
    · simp [h1, not_lt_of h1]
    · exact absurd h1 hne
    · simp [h1, not_lt_of h1]
  have hp : posL (namesR l) x.1 = (l.takeWhile (fun y : Snp => !decide (x.1 < y.1))).length := by
    unfold posL namesR
    rw [List.takeWhile_map, List.length_map]
    congr 1
    clear h
    induction l with
    | nil => rfl
    | cons y l ih =>
      have h1 := hc y List.mem_cons_self
      simp only at h1
      simp only [List.takeWhile_cons, Function.comp, h1]
      split
      · rw [ih (fun z hz => hc z (List.mem_cons_of_mem _ hz))]
      · rfl
  obtain ⟨h1, h2⟩ := takeWhile_len (fun y : Snp => !decide (x.1 < y.1)) l
  unfold insR
  rw [hp, h1, h2]
theorem flat_ins (l : List Snp) (x : Snp) (k : Nat) : (l.flatMap snpC).take (k * 2) ++ (snpC x ++ (l.flatMap snpC).drop (k * 2)) = (l.take k ++ x :: l.drop k).flatMap snpC := by
  rw [flat_take (K := 2) (fun _ => rfl), flat_drop (K := 2) (fun _ => rfl), List.flatMap_append, List.flatMap_cons]

set_option maxHeartbeats 4000000 in
set_option maxRecDepth 100000 in
theorem pput18_walk (v : Value) (l : List Snp) (x : Snp) (w : World) (hr : SnpRow w v l) (hcnt : l.length ≤ 1000000) (hx1 : x.1.length ≤ 1000000) (hx2 : x.2.length ≤ 1000000) (hup : upS (namesR l)) :
    Calls Try.prog 16 #[v, SnpV x] w fun e w' => ∃ v', e = .returned (.tuple #[v', .int .i64 (putE l x).2]) ∧ SnpRow w' v' (putE l x).1 ∧ Below w.heap.size w w' := by
  obtain ⟨p, q⟩ := x
  have hBx : Below w.heap.size w (w.alloc (.cells #[S p, S q] 31)) := (Below.refl _ _).alloc (Nat.le_refl _) _
  have hr1 := hr.below hBx
  have C := pat_walk v l p _ hr1 hcnt hup
  have HD := Lib.hid (show putE l (p, q) = if nameB p = false then (l, 7) else if q.length ≠ 32 then (l, 11) else if (findR l p).isSome then (l, 6) else if 20 ≤ l.length then (l, 9) else (insR l (p, q), 0) from rfl)
  generalize putE l (p, q) = de at *
  simp only at hx1 hx2
  have HIN := Lib.hid (fun h => insR_pos (l := l) (x := (p, q)) h)
  have hfs : (findR l p).isSome = decide (p ∈ namesR l) := by
    by_cases hin : p ∈ namesR l
    · obtain ⟨_, hf⟩ := findR_pos hup hin
      rw [hf]; simp [hin]
    · rw [findR_none hin]; simp [hin]
  have hdd : decide (p ∈ l.map (·.1)) = decide (p ∈ namesR l) := rfl
  rw [hdd] at C
  rw [hfs] at HD
  have HMEM := Lib.hid (fun (h : decide (p ∈ namesR l) = false) => (show p ∉ namesR l by simpa using h))
  have hpp : posL (l.map (·.1)) p = posL (namesR l) p := rfl
  rw [hpp] at C
  have hpl : posL (namesR l) p ≤ l.length := by have := posL_le (namesR l) p; rwa [namesR_len] at this
  have HPL := Lib.hid hpl
  simp only at HIN
  generalize posL (namesR l) p = k at *
  generalize decide (p ∈ namesR l) = is at *
  have HR1 := Lib.hid hr1
  obtain ⟨a, c, rfl, hc, hm, hx⟩ := hr
  clear hx hr1 hfs hdd hpp hup
  have hcx1 := cell_new w #[S p, S q] 31 0 rfl
  have hcx2 := cell_new w #[S p, S q] 31 1 rfl
  go_enter Try.func16, Try.ntmps16
  go_wp2_with fail
  refine C.mono ?_
  rintro e w1 ⟨rfl, hb⟩
  have hp1 := cell_below hb hcx1
  have hp2 := cell_below hb hcx2
  have hB1 := below_chain hBx hb (by simp)
  have hs1 : w.heap.size + 1 ≤ w1.heap.size := by have := hb.size; simpa using this
  have hr1 := HR1.out.below hb
  clear HR1 C hcx1 hcx2 hBx hb
  have CN := fun w => name_walk p w hx1
  obtain ⟨nb, hnb⟩ : ∃ nb, nameB p = nb := ⟨_, rfl⟩
  rw [hnb] at CN HD
  clear hnb
  cases nb with
  | false =>
    have HD1 := Lib.hid (HD.out.trans (if_pos rfl))
    go_wp2_with (go_at_call 45; refine (CN _).mono ?_; rintro e w2 ⟨rfl, hb2⟩)
    go_ret2
    exact ⟨_, by rw [HD1.out]; rfl, by rw [HD1.out]; exact hr1.below hb2, below_chain hB1 hb2 hB1.size⟩
  | true =>
    have HD1 := Lib.hid (HD.out.trans (if_neg (by simp)))
    clear HD
    go_wp2_with fail
    refine (CN _).mono ?_
    rintro e w2 ⟨rfl, hb2⟩
    have hq1 := cell_below hb2 hp1
    have hq2 := cell_below hb2 hp2
    have hB2 := below_chain hB1 hb2 hB1.size
    have hr2 := hr1.below hb2
    have hs2 : w.heap.size + 1 ≤ w2.heap.size := by have := hb2.size; omega
    clear hr1 hp1 hp2 hb2 hB1 CN
    by_cases hq : q.length ≠ 32
    · have HD2 := Lib.hid (HD1.out.trans (if_pos hq))
      have hq' : ((q.length : Int) != 32) = true := by rw [bne_iff_ne]; omega
      clear hq
      go_wp2
      go_ret2
      exact ⟨_, by rw [HD2.out]; rfl, by rw [HD2.out]; exact hr2, hB2⟩
    have HD2 := Lib.hid (HD1.out.trans (if_neg hq))
    have hq' : ((q.length : Int) != 32) = false := by rw [bne_eq_false_iff_eq]; omega
    clear hq HD1
    cases is with
    | true =>
      have HD3 := Lib.hid (HD2.out.trans (if_pos (by simp)))
      go_wp2
      go_ret2
      exact ⟨_, by rw [HD3.out]; rfl, by rw [HD3.out]; exact hr2, hB2⟩
    | false =>
    have HD3 := Lib.hid (HD2.out.trans (if_neg (by simp)))
    clear HD2
    by_cases h20 : 20 ≤ l.length
    · have HD4 := Lib.hid (HD3.out.trans (if_pos h20))
      have h20' : (20 : Int) ≤ (l.length : Int) := by omega
      go_wp2
      go_ret2
      exact ⟨_, by rw [HD4.out]; rfl, by rw [HD4.out]; exact hr2, hB2⟩
    have HD4 := Lib.hid (HD3.out.trans (if_neg h20))
    have h20' : ¬ (20 : Int) ≤ (l.length : Int) := by omega
    have HINS := Lib.hid (HIN.out (HMEM.out rfl))
    clear HD3 h20 HIN HMEM
    have HR2 := Lib.hid hr2
    have CC := fun (W : World) (h : Below w2.heap.size w2 W) => cloSnap_walk W.heap.size a l.length c (l.flatMap snpC) W (Nat.le_refl _) hcnt (flat_len l) (row_flat (HR2.out.below h)) (flat_one l)
    have HCC := Lib.hid CC
    have CI := fun (B : Nat) (v : Value) (vb : Nat) (W : World) (h1 : W.ownsRow B 31 2 v l.length (l.flatMap snpC)) (h2 : B ≤ W.heap.size) (h3 : W.heap[vb]? = some (.cells [S p, S q].toArray 31 (0, 0))) (h4 : v.ownBlock ≠ some vb) => insSnap_walk B v l.length k vb (l.flatMap snpC) [S p, S q] W h1 HPL.out h2 hcnt rfl h3 (by intro u hu; simp at hu; rcases hu with rfl | rfl <;> rfl) (flat_one l) h4
    have HCI := Lib.hid CI
    clear CC CI hr2
    go_upto_region 10 with fail
    go_region_with (first
      | (go_at_call 49; refine (HCC.out _ ?_).mono ?_; (repeat (first | exact Below.refl _ _ | refine Below.drew ?_ | refine Below.alloc ?_ (by simp) _)); rintro e w3 ⟨v3, rfl, hown3, hb3⟩; have hz3 := hb3.size; (have ht1 : w3.cell? ⟨w.heap.size, 0, none⟩ = some (S p) := by first | exact cell_below hb3 (show World.cell? _ _ = _ from hq1) | exact cell_below hb3 (show World.cell? _ _ = _ from cell_old hq1 _)); (have ht2 : w3.cell? ⟨w.heap.size, 1, none⟩ = some (S q) := by first | exact cell_below hb3 (show World.cell? _ _ = _ from hq2) | exact cell_below hb3 (show World.cell? _ _ = _ from cell_old hq2 _)))
      | (go_at_call 48; (with_reducible refine (HCI.out _ _ _ _ (hown3.alloc _) ?_ ?_ ?_).mono ?_); (simp at hz3 ⊢; omega); (exact heap_alloc_new _ _); (exact (fun e => by have := (hown3.lt _ e).2; omega)); rintro e w4 ⟨v4, rfl, hown4, hb4⟩; have hfin : Below w2.heap.size w2 w4 := ((((below_drewN 1).trans (hb3.mono (by simp)))).alloc (by simp at hz3 ⊢; omega) _).trans (hb4.mono (by simp)))
      | (go_at_call 48; (with_reducible refine (HCI.out _ _ _ _ hown3 ?_ ?_ ?_).mono ?_); (simp at hz3 ⊢; omega); (exact (hb3.block _ (by simp)).trans (heap_alloc_new _ _)); (exact (fun e => by have := (hown3.lt _ e).1; simp at this; omega)); rintro e w4 ⟨v4, rfl, hown4, hb4⟩; have hfin : Below w2.heap.size w2 w4 := ((((below_drewN 1).alloc (Nat.le_refl _) _).trans (hb3.mono (by simp))).trans (hb4.mono (by simp)))))
    all_goals
      have hlen : (l.take k ++ (p, q) :: l.drop k).length = l.length + 1 := by have := HPL.out; simp; omega
      have HO := Lib.hid (Row.of_owns (xs := l.take k ++ (p, q) :: l.drop k) (by rw [← flat_ins, hlen]; exact hown4))
      clear hown4 hown3 hlen hb4 hb3
      go_wp2
      go_ret2
      exact ⟨_, by rw [HD4.out]; rfl, by rw [HD4.out]; simp only; rw [HINS.out]; exact HO.out, below_chain hB2 hfin hB2.size⟩
end Go.Proofs.Ytmlahfmcccpgjaa
