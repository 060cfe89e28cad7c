/- The reference's sets of keys: two together, of which the second has one key. The reference's collections: Begin, Note, Done. The reference's collection goes on: Step. -/
import Derived.Test.YtengciicdnkgaaaGreatDoorJKey
import Derived.Test.YtengciicdnkgaaaGreatDoorGcBegin
import Derived.Test.YtengciicdnkgaaaGreatDoorJGcP
import Derived.Test.YtengciicdnkgaaaGreatDoorJRK
import Derived.Test.YtengciicdnkgaaaGreatDoorGcFitP
import Derived.Test.YtengciicdnkgaaaGreatDoorRObj
import Derived.Test.YtengciicdnkgaaaGreatDoorR11f
import Derived.Test.YtengciicdnkgaaaGreatDoorJTail
namespace Go.Proofs.YtengciicdnkgaaaGreatDoor
open Go.RowKit

set_option maxHeartbeats 4000000 in
set_option maxRecDepth 100000 in
theorem rjoin1_walk (v v2 : Value) (l : List (List UInt8)) (k : List UInt8) (w : World) (hr : StrRow w v l) (hr2 : StrRow w v2 [k]) (hcnt : l.length ≤ 100000) (hup : upS l) :
    Calls Tryz.prog 41 #[v, v2] w fun e w' => ∃ v', e = .returned v' ∧ StrRow w' v' (addL l k) ∧ Below w.heap.size w w' := by
  have HR2 := Lib.hid hr2
  obtain ⟨a, c, rfl, hc, hm, hx⟩ := hr
  obtain ⟨a2, c2, rfl, hc2, hm2, hx2⟩ := hr2
  rcases hx2 with hx2 | ⟨b2, o2, rfl, hx2⟩
  · cases hx2
  have hk0 := hx2 0 k rfl
  obtain ⟨i0, hi, hz0, hz1, hz2⟩ := info_parts infoStr
  have HUP := Lib.hid hup
  have HUP2 := Lib.hid (addL_up (k := k) hup)
  clear hx2 hup
  have main : ∀ (v1 : Value) (w1 : World), StrRow w1 v1 l → Below w.heap.size w w1 → True := fun _ _ _ _ => trivial
  clear main
  have hnews : a = none ∧ l = [] ∨ ∃ ad, a = some ad ∧ ∀ j u, (l.map S)[j]? = some u → w.cell? (ad.add j) = some u := by
    cases a with
    | none =>
      rcases hx with hx | ⟨b, o, h, _⟩
      · exact .inl ⟨rfl, hx⟩
      · cases h
    | some ad =>
      refine .inr ⟨ad, rfl, fun j u hj => ?_⟩
      rcases hx with hx | ⟨b, o, h, hx⟩
      · rw [hx] at hj; cases hj
      · cases h
        rw [Addr.add_lit]
        rw [List.getElem?_map] at hj
        cases hlj : l[j]? with
        | none => rw [hlj] at hj; cases hj
        | some x => rw [hlj] at hj; cases hj; exact hx j x hlj
  clear hx
  rcases hnews with ⟨rfl, rfl⟩ | ⟨ad, rfl, hnews⟩
  · have HSTART := Lib.hid (StrRow.nil w)
    have HBST := Lib.hid (Below.refl w.heap.size w)
    go_enter Tryz.func41, Tryz.ntmps41
    go_wp2
    go_loopw [5, 6] (fun v i wr => (i = .int .i64 0 ∧ StrRow wr v [] ∧ Below w.heap.size w wr) ∨ (i = .int .i64 1 ∧ StrRow wr v (addL [] k) ∧ Below w.heap.size w wr)) (fun _ i _ => 1 - (intOf i).toNat)
    case atStart => exact .inl ⟨rfl, HSTART.out, HBST.out⟩
    case round =>
      rcases hrel with ⟨rfl, hrv, hB⟩ | ⟨rfl, hrv, hB⟩
      · have C := radd_walk u5 [] k wr hrv (by first | omega | simp) HUP.out
        have hc1 := cell_below hB hk0
        try simp only [Nat.add_zero] at hc1
        clear hrv
        go_wp2_with fail
        refine C.mono ?_
        rintro e w2 ⟨v2, rfl, hr2, hb2⟩
        have hB2 := below_chain hB hb2 hB.size
        clear C
        go_wp2
        go_roundw
        case rel => exact .inr ⟨by go_num, hr2, hB2⟩
        case measure => simp [intOf]
      · have HRV := Lib.hid hrv
        clear hrv
        go_wp2
        go_ret
        exact ⟨_, rfl, HRV.out, hB⟩
  · have hnil := World.ownsRow_nil w w.heap.size 9 1
    have HNEWS := Lib.hid hnews
    clear hnews
    go_enter Tryz.func41, Tryz.ntmps41
    go_wp2_with (at_builtin; refine wpList_append_own _ rfl _ _ 22 rfl w.heap.size 9 i0 (.string ⟨#[]⟩) 1 16 Tryz.underlying22 hi hz0 hz1 hz2 rfl (by decide) _ 0 [] rfl hnil ad l.length c (l.map S) rfl (by simp) HNEWS.out (by intro u hu; obtain ⟨x, _, rfl⟩ := List.mem_map.1 hu; rfl) (by unfold maxLen; omega) (by omega) (Nat.le_refl _) ?_)
    intro v1 w1 hown1 hgrow1 _
    have HBST := Lib.hid ((Below.refl w.heap.size w).grown hgrow1 (Nat.le_refl _) (fun j hj => by cases hj))
    have HSTART := Lib.hid (show StrRow w1 v1 l from StrRow.of_owns (by simpa using hown1))
    clear hown1 hgrow1 hnil
    go_wp2
    go_loopw [5, 6] (fun v i wr => (i = .int .i64 0 ∧ StrRow wr v l ∧ Below w.heap.size w wr) ∨ (i = .int .i64 1 ∧ StrRow wr v (addL l k) ∧ Below w.heap.size w wr)) (fun _ i _ => 1 - (intOf i).toNat)
    case atStart => exact .inl ⟨rfl, HSTART.out, HBST.out⟩
    case round =>
      rcases hrel with ⟨rfl, hrv, hB⟩ | ⟨rfl, hrv, hB⟩
      · have C := radd_walk u5 l k wr hrv (by first | omega | simp) HUP.out
        have hc1 := cell_below hB hk0
        try simp only [Nat.add_zero] at hc1
        clear hrv
        go_wp2_with fail
        refine C.mono ?_
        rintro e w2 ⟨v2, rfl, hr2, hb2⟩
        have hB2 := below_chain hB hb2 hB.size
        clear C
        go_wp2
        go_roundw
        case rel => exact .inr ⟨by go_num, hr2, hB2⟩
        case measure => simp [intOf]
      · have HRV := Lib.hid hrv
        clear hrv
        go_wp2
        go_ret
        exact ⟨_, rfl, HRV.out, hB⟩
end Go.Proofs.YtengciicdnkgaaaGreatDoor

namespace Go.Proofs.YtengciicdnkgaaaGreatDoor
open Go.RowKit

set_option maxHeartbeats 4000000 in
set_option maxRecDepth 100000 in
theorem rbegin20_walk (v : Value) (l : List (List UInt8)) (w : World) (hr : StrRow w v l) (hcnt : l.length ≤ 1000000) :
    Calls Tryz.prog 17 #[v] w (BegPost (setOf l) w) := by
  obtain ⟨w1, hw1, hB1, hg1⟩ : ∃ w1, w1 = w.alloc (GCells false (.slice none 0 0) (.slice none 0 0)) ∧ Below w.heap.size w w1 ∧ w1.heap[w.heap.size]? = some (GCells false (.slice none 0 0) (.slice none 0 0)) :=
    ⟨_, rfl, (Below.refl _ _).alloc (Nat.le_refl _) _, heap_alloc_new w _⟩
  have C1 := rof_walk v l w1 (hr.below hB1) (by omega)
  have HC2 := Lib.hid (fun (w' : World) (hb : Below w1.heap.size w1 w') => rof_walk v l w' ((hr.below hB1).below hb) (by omega))
  generalize setOf l = s at *
  clear hr hcnt
  go_enter Tryz.func17, Tryz.ntmps17
  go_upto_region 1 with fail
  rw [← hw1]
  clear hw1
  go_wp2_with fail
  refine C1.mono ?_
  rintro e w2 ⟨v2, rfl, hr2, hb2⟩
  have hB2 := below_chain hB1 hb2 hB1.size
  have hg2 := keptG hb2 hg1
  have C2 := HC2.out w2 hb2
  have HR2 := Lib.hid hr2
  obtain ⟨a2, c2, rfl, -⟩ := hr2
  clear C1 hb2 hg1 hB1
  go_wp2_with fail
  refine C2.mono ?_
  rintro e w3 ⟨v3, rfl, hr3, hb3⟩
  have hg3 := keptG hb3 hg2
  have HR3 := Lib.hid hr3
  obtain ⟨a3, c3, rfl, -⟩ := hr3
  have HB3 := Lib.hid (below_chain hB2 hb3 hB2.size)
  have HRQ := Lib.hid (HR2.out.below hb3)
  have HG3 := Lib.hid hg3
  obtain ⟨r0, r1, r2⟩ := gcells hg3
  have s0 := is_some r0
  have s1 := is_some r1
  have s2 := is_some r2
  have f0 := heap_free hg3 0
  have f1 := heap_free hg3 1
  have f2 := heap_free hg3 2
  have HRWN := Lib.hid (RowN.of_boxG HRQ.out HG3.out)
  have HRMN := Lib.hid (RowN.of_boxG HR3.out HG3.out)
  clear C2 hb3 hg2 hB2 hg3
  go_wp2
  refine bodyPost_ret (v := GcV true (.slice a2 s.length c2) (.slice a3 s.length c3)) (by simp [results, Tryz.results17, go_sem, s0, s1, s2]) rfl ?_
  exact ⟨_, _, rfl, (((HRWN.out.set).set).set).row, (((HRMN.out.set).set).set).row, below_setC (below_setC (below_setC HB3.out (Nat.le_refl _) 0 _) (Nat.le_refl _) 1 _) (Nat.le_refl _) 2 _⟩

theorem rdone20_walk (on : Bool) (qv mv : Value) (q : List (List UInt8)) (w : World) (hq : StrRow w qv q) (hmv : ∃ a n c, mv = .slice a n c) : Calls Tryz.prog 22 #[GcV on qv mv] w fun e w' => e = .returned (.bool (doneB on q)) ∧ Below w.heap.size w w' := by
  obtain ⟨a, c, rfl, -⟩ := hq
  obtain ⟨a2, n2, c2, rfl⟩ := hmv
  have HD := Lib.hid (show doneB on q = (on && q.isEmpty) from rfl)
  generalize doneB on q = d at *
  cases on with
  | false =>
    go_enter Tryz.func22, Tryz.ntmps22
    go_wp2
    go_ret
    exact ⟨by rw [HD.out]; rfl, (Below.refl _ _).alloc (Nat.le_refl _) _⟩
  | true =>
    cases q with
    | nil =>
      go_enter Tryz.func22, Tryz.ntmps22
      go_wp2
      go_ret
      exact ⟨by rw [HD.out]; rfl, (Below.refl _ _).alloc (Nat.le_refl _) _⟩
    | cons k q =>
      have hnz : (((k :: q).length : Int) == 0) = false := by rw [beq_eq_false_iff_ne]; simp; omega
      generalize (k :: q).length = QL at *
      go_enter Tryz.func22, Tryz.ntmps22
      go_wp2
      go_ret
      exact ⟨by rw [HD.out]; rfl, (Below.refl _ _).alloc (Nat.le_refl _) _⟩

set_option maxHeartbeats 8000000 in
set_option maxRecDepth 100000 in
theorem rnote20_walk (on : Bool) (qv mv : Value) (q m : List (List UInt8)) (k : List UInt8) (w : World) (hq : StrRow w qv q) (hm : StrRow w mv m) (hql : q.length ≤ 90000) (hml : m.length ≤ 90000) (hup : upS m) :
    Calls Tryz.prog 20 #[GcV on qv mv, S k] w (NoteLPost on q m k w) := by
  have HQ := Lib.hid hq
  have HM := Lib.hid hm
  obtain ⟨qa, qc, rfl, _⟩ := hq
  obtain ⟨ma, mc, rfl, _⟩ := hm
  obtain ⟨w1, hw1, hB1, hz1, hg1, hr1⟩ : ∃ w1, w1 = (w.alloc (GCells on (.slice qa q.length qc) (.slice ma m.length mc))).alloc (GCells false (.slice none 0 0) (.slice none 0 0)) ∧ Below w.heap.size w w1 ∧ w1.heap.size = w.heap.size + 1 + 1 ∧ w1.heap[w.heap.size]? = some (GCells on (.slice qa q.length qc) (.slice ma m.length mc)) ∧ w1.heap[w.heap.size + 1]? = some (GCells false (.slice none 0 0) (.slice none 0 0)) := by
    refine ⟨_, rfl, ((Below.refl _ _).alloc (Nat.le_refl _) _).alloc (by simp) _, by simp, ?_, ?_⟩
    · exact heap_old (heap_alloc_new w _)
    · exact heap_new' (by simp) _
  have HSZ := Lib.hid hz1
  have hsame : (¬ (on = true ∧ k.length = 32 ∧ k ∉ m)) → noteQ on q m k = q ∧ noteM on m k = m := fun h => ⟨if_neg h, if_neg h⟩
  have HSAME := Lib.hid hsame
  -- what is handed back where nothing turns
  have HFIN := Lib.hid (fun (w2 : World) (hb : Below w1.heap.size w1 w2) (h : ¬ (on = true ∧ k.length = 32 ∧ k ∉ m)) => show NoteLPost on q m k w (.returned (GcV on (.slice qa q.length qc) (.slice ma m.length mc))) (((w2.setCell ⟨w.heap.size + 1, 0, none⟩ (.bool on)).setCell ⟨w.heap.size + 1, 1, none⟩ (.slice qa q.length qc)).setCell ⟨w.heap.size + 1, 2, none⟩ (.slice ma m.length mc)) from by
    have hB2 := below_setC (below_setC (below_setC (hB1.trans (hb.mono hB1.size)) (show w.heap.size ≤ w.heap.size + 1 by omega) 0 (.bool on)) (show w.heap.size ≤ w.heap.size + 1 by omega) 1 (.slice qa q.length qc)) (show w.heap.size ≤ w.heap.size + 1 by omega) 2 (.slice ma m.length mc)
    obtain ⟨e1, e2⟩ := HSAME.out h
    exact ⟨_, _, rfl, by rw [e1]; exact HQ.out.below hB2, by rw [e2]; exact HM.out.below hB2, hB2⟩)
  clear hz1 hsame
  obtain ⟨y0, y1, y2⟩ := gcells hg1
  obtain ⟨r0, r1, r2⟩ := gcells hr1
  have s0 := is_some r0
  have s1 := is_some r1
  have s2 := is_some r2
  have f0 := heap_free hr1 0
  have f1 := heap_free hr1 1
  have f2 := heap_free hr1 2
  cases on with
  | false =>
    go_enter Tryz.func20, Tryz.ntmps20
    go_upto_region 1 with fail
    rw [← hw1]
    clear hw1
    go_wp2
    refine bodyPost_ret (v := GcV false (.slice qa q.length qc) (.slice ma m.length mc)) (by simp [results, Tryz.results20, go_sem, s0, s1, s2]) rfl ?_
    exact HFIN.out w1 (Below.refl _ _) (fun h => by cases h.1)
  | true =>
  by_cases h32 : k.length = 32
  case neg =>
    have hne : ((k.length : Int) != 32) = true := by rw [bne_iff_ne]; omega
    have HN := Lib.hid (show ¬ (true = true ∧ k.length = 32 ∧ k ∉ m) from fun h => h32 h.2.1)
    clear h32
    go_enter Tryz.func20, Tryz.ntmps20
    go_upto_region 1 with fail
    rw [← hw1]
    clear hw1
    go_wp2
    refine bodyPost_ret (v := GcV true (.slice qa q.length qc) (.slice ma m.length mc)) (by simp [results, Tryz.results20, go_sem, s0, s1, s2]) rfl ?_
    exact HFIN.out w1 (Below.refl _ _) HN.out
  have hne : ((k.length : Int) != 32) = false := by rw [bne_eq_false_iff_eq]; omega
  have CH := rhas_walk (.slice ma m.length mc) m k w1 (HM.out.below hB1) (by omega)
  by_cases hin : k ∈ m
  · have HN := Lib.hid (show ¬ (true = true ∧ k.length = 32 ∧ k ∉ m) from fun h => h.2.2 hin)
    rw [decide_eq_true hin] at CH
    clear h32 hin s0 s1 s2 f0 f1 f2
    go_enter Tryz.func20, Tryz.ntmps20
    go_upto_region 1 with fail
    rw [← hw1]
    clear hw1
    go_wp2_with fail
    refine CH.mono ?_
    rintro e w2 ⟨rfl, hb2⟩
    have hg2 := keptG hb2 hg1
    have hr2 := keptG hb2 hr1
    clear CH y0 y1 y2 r0 r1 r2
    obtain ⟨y0, y1, y2⟩ := gcells hg2
    obtain ⟨r0, r1, r2⟩ := gcells hr2
    have s0 := is_some r0
    have s1 := is_some r1
    have s2 := is_some r2
    have f0 := heap_free hr2 0
    have f1 := heap_free hr2 1
    have f2 := heap_free hr2 2
    have HB2 := Lib.hid hb2
    clear hb2 hg2 hr2
    go_wp2
    refine bodyPost_ret (v := GcV true (.slice qa q.length qc) (.slice ma m.length mc)) (by simp [results, Tryz.results20, go_sem, s0, s1, s2]) rfl ?_
    exact HFIN.out w2 HB2.out HN.out
  rw [decide_eq_false hin] at CH
  have HNQ := Lib.hid (show noteQ true q m k = q ++ [k] from if_pos ⟨rfl, h32, hin⟩)
  have HNM := Lib.hid (show noteM true m k = addL m k from if_pos ⟨rfl, h32, hin⟩)
  have HUP := Lib.hid hup
  obtain ⟨i0, hi, hz0, hz1, hz2⟩ := info_parts infoStr
  clear h32 hin s0 s1 s2 f0 f1 f2 hup
  go_enter Tryz.func20, Tryz.ntmps20
  go_upto_region 1 with fail
  rw [← hw1]
  clear hw1
  go_wp2_with fail
  refine CH.mono ?_
  rintro e w2 ⟨rfl, hb2⟩
  have hg2 := keptG hb2 hg1
  have hB2 := hB1.trans (hb2.mono hB1.size)
  have hr2 := keptG hb2 hr1
  clear CH y0 y1 y2 r0 r1 r2 hg1 hr1 hb2
  obtain ⟨y0, y1, y2⟩ := gcells hg2
  go_wp2_with (at_builtin; refine wpList_append_row rfl _ _ 22 rfl w2.heap.size 9 i0 (.string ⟨#[]⟩) Tryz.underlying22 hi hz0 hz1 hz2 rfl _ _ _ rfl (World.ownsRow_nil _ _ _ _) (.slice qa q.length qc) q rfl (HQ.out.below hB2) (by omega) (Nat.le_refl _) ?_)
  intro v3 w3 hown3 hb3
  have hg3 := keptG hb3 hg2
  have hr3 := keptG hb3 hr2
  have hB3 := hB2.trans (hb3.mono hB2.size)
  have hsz3 := hb3.size
  clear y0 y1 y2
  go_wp2_with (at_builtin; refine wpList_append_own _ rfl _ _ 22 rfl w2.heap.size 9 i0 (.string ⟨#[]⟩) 1 16 Tryz.underlying22 hi hz0 hz1 hz2 rfl (by decide) _ _ _ rfl (hown3.alloc _) ⟨w3.heap.size, 0, none⟩ 1 1 [S k] rfl rfl (new_cell_at rfl _ _) (s_one _) (by unfold maxLen; omega) (by omega) (by rw [World.size_alloc]; omega) ?_)
  intro v4 w4 hown4 hgrow4 _
  have hb4 : Below w2.heap.size w3 w4 := ((Below.refl _ _).alloc (by omega) _).grown hgrow4 (by rw [World.size_alloc]; omega) (fun j hj => (hown3.lt j hj).1)
  have hb24 := hb3.trans hb4
  have hg4 := keptG hb24 hg2
  have hr4 := keptG hb24 hr2
  have hB4 := hB2.trans (hb24.mono hB2.size)
  have hrow4 : StrRow w4 v4 (q ++ [k]) := StrRow.of_owns (by simpa using hown4)
  have HN40 := Lib.hid (RowN.of_boxG hrow4 hg4)
  obtain ⟨a4, c4, rfl, -⟩ := hrow4
  obtain ⟨y0, y1, y2⟩ := gcells hg4
  have s1 := is_some y1
  have f1 := heap_free hg4 1
  obtain ⟨w5, hw5, hg5, hB5, hr5⟩ : ∃ w5, w5 = w4.setCell ⟨w.heap.size, 1, none⟩ (.slice a4 (q ++ [k]).length c4) ∧ w5.heap[w.heap.size]? = some (GCells true (.slice a4 (q ++ [k]).length c4) (.slice ma m.length mc)) ∧ Below w.heap.size w w5 ∧ w5.heap[w.heap.size + 1]? = some (GCells false (.slice none 0 0) (.slice none 0 0)) :=
    ⟨_, rfl, by simpa using heap_set_cell (o := 1) hg4 (.slice a4 (q ++ [k]).length c4), below_setC hB4 (Nat.le_refl _) 1 _, (Below.heap_setCell _ _ _ _ (by show w.heap.size + 1 ≠ w.heap.size; omega)).trans hr4⟩
  have HN4 := Lib.hid (show RowN w.heap.size w5 (.slice a4 (q ++ [k]).length c4) (q ++ [k]) by rw [hw5]; exact HN40.out.set)
  clear hown3 hb3 hg3 hr3 hB3 hown4 hgrow4 hb4 hb24 hg4 hr4 hB4 hg2 hr2 hB2
  generalize (q ++ [k]).length = QL at *
  go_upto_region 6 with fail
  rw [← hw5]
  clear hw5 y0 y1 y2 s1 f1
  obtain ⟨y0, y1, y2⟩ := gcells hg5
  have hB6 := hB5.alloc hB5.size (.cells #[S k] 9)
  have CJ := rjoin1_walk (.slice ma m.length mc) (.slice (some ⟨w5.heap.size, 0, none⟩) 1 1) m k (w5.alloc (.cells #[S k] 9)) (HM.out.below hB6) (by have h9 := row_lit w5 9 [k] (by simp); simpa using h9) (by omega) HUP.out
  have hb56 : Below w5.heap.size w5 (w5.alloc (.cells #[S k] 9)) := (Below.refl _ _).alloc (Nat.le_refl _) _
  go_wp2_with fail
  refine CJ.mono ?_
  rintro e w7 ⟨v7, rfl, hrow7, hb7⟩
  have hb57 := hb56.trans (hb7.mono hb56.size)
  have hg7 := keptG hb57 hg5
  have hr7 := keptG hb57 hr5
  have hB7 := hB5.trans (hb57.mono hB5.size)
  have HQ7 := Lib.hid (HN4.out.below hb57)
  have HM7 := Lib.hid (RowN.of_boxG hrow7 hg7)
  rw [HNM.out.symm] at HM7
  obtain ⟨a7, c7, rfl, -⟩ := hrow7
  generalize (addL m k).length = ML at *
  clear CJ y0 y1 y2 hb7 hb57 hb56 hB6
  obtain ⟨y0, y1, y2⟩ := gcells hg7
  have s2 := is_some y2
  have f2 := heap_free hg7 2
  obtain ⟨w8, hw8, hg8, hr8, HB8, HQ8, HM8⟩ : ∃ w8, w8 = w7.setCell ⟨w.heap.size, 2, none⟩ (.slice a7 ML c7) ∧ w8.heap[w.heap.size]? = some (GCells true (.slice a4 QL c4) (.slice a7 ML c7)) ∧ w8.heap[w.heap.size + 1]? = some (GCells false (.slice none 0 0) (.slice none 0 0)) ∧ Hid (Below w.heap.size w w8) ∧ Hid (StrRow w8 (.slice a4 QL c4) (q ++ [k])) ∧ Hid (StrRow w8 (.slice a7 ML c7) (noteM true m k)) :=
    ⟨_, rfl, by simpa using heap_set_cell (o := 2) hg7 (.slice a7 ML c7), (Below.heap_setCell _ _ _ _ (by show w.heap.size + 1 ≠ w.heap.size; omega)).trans hr7, below_setC hB7 (Nat.le_refl _) 2 _, HQ7.out.set.row, HM7.out.set.row⟩
  clear hg7 hr7 hB7 HQ7 HM7
  go_upto_region 7 with fail
  rw [← hw8]
  clear hw8 y0 y1 y2 s2 f2
  obtain ⟨y0, y1, y2⟩ := gcells hg8
  obtain ⟨r0, r1, r2⟩ := gcells hr8
  have s0 := is_some r0
  have s1 := is_some r1
  have s2 := is_some r2
  have f0 := heap_free hr8 0
  have f1 := heap_free hr8 1
  have f2 := heap_free hr8 2
  have HR8 := Lib.hid hr8
  clear hg8 hr8 hg5 hr5 hB5
  go_wp2
  refine bodyPost_ret (v := GcV true (.slice a4 QL c4) (.slice a7 ML c7)) (by simp [results, Tryz.results20, go_sem, s0, s1, s2]) rfl ?_
  exact ⟨_, _, rfl, by rw [HNQ.out]; exact (((RowN.of_boxG HQ8.out HR8.out).set).set).set.row, (((RowN.of_boxG HM8.out HR8.out).set).set).set.row, below_setC (below_setC (below_setC HB8.out (by omega) 0 _) (by omega) 1 _) (by omega) 2 _⟩
end Go.Proofs.YtengciicdnkgaaaGreatDoor

namespace Go.Proofs.YtengciicdnkgaaaGreatDoor
open Go.RowKit

/-- Where the reference's collection stands, in its box. -/
def RSI (on : Bool) (s : QM) (w0 w : World) : Prop :=
  ∃ qa qc ma mc QL ML, s.1.length = QL ∧ s.2.length = ML ∧ w.heap[w0.heap.size]? = some (GCells on (.slice qa QL qc) (.slice ma ML mc)) ∧ w.heap[w0.heap.size + 1]? = some (GCells false (.slice none 0 0) (.slice none 0 0)) ∧ RowN w0.heap.size w (.slice qa QL qc) s.1 ∧ RowN w0.heap.size w (.slice ma ML mc) s.2 ∧ Below w0.heap.size w0 w
theorem RSI.put {on : Bool} {s : QM} {w0 w : World} {qa ma pa na : Option Addr} {qn qc mn mc pn pc nn nc : Nat} (hg : w.heap[w0.heap.size]? = some (GCells on (.slice qa qn qc) (.slice ma mn mc))) (hr : w.heap[w0.heap.size + 1]? = some (GCells false (.slice none 0 0) (.slice none 0 0))) (hq : StrRow w (.slice pa pn pc) s.1) (hm : StrRow w (.slice na nn nc) s.2) (hB : Below w0.heap.size w0 w) :
    RSI on s w0 (((w.setCell ⟨w0.heap.size, 0, none⟩ (.bool on)).setCell ⟨w0.heap.size, 1, none⟩ (.slice pa pn pc)).setCell ⟨w0.heap.size, 2, none⟩ (.slice na nn nc)) := by
  have h1 := (((RowN.of_boxG hq hg).set (o := 0) (u := .bool on)).set (o := 1) (u := .slice pa pn pc)).set (o := 2) (u := .slice na nn nc)
  have h2 := (((RowN.of_boxG hm hg).set (o := 0) (u := .bool on)).set (o := 1) (u := .slice pa pn pc)).set (o := 2) (u := .slice na nn nc)
  have h3 := heap_set_cell (o := 2) (heap_set_cell (o := 1) (heap_set_cell (o := 0) hg (.bool on)) (.slice pa pn pc)) (.slice na nn nc)
  obtain ⟨x1, x2, e1, _⟩ := hq
  obtain ⟨y1, y2, e2, _⟩ := hm
  cases e1
  cases e2
  refine ⟨_, _, _, _, _, _, rfl, rfl, by simpa using h3, ?_, h1, h2, below_setC (below_setC (below_setC hB (Nat.le_refl _) 0 _) (Nat.le_refl _) 1 _) (Nat.le_refl _) 2 _⟩
  exact (Below.heap_setCell _ _ _ _ (by show w0.heap.size + 1 ≠ w0.heap.size; omega)).trans ((Below.heap_setCell _ _ _ _ (by show w0.heap.size + 1 ≠ w0.heap.size; omega)).trans ((Below.heap_setCell _ _ _ _ (by show w0.heap.size + 1 ≠ w0.heap.size; omega)).trans hr))
theorem RSI.below {on : Bool} {s : QM} {w0 w w' : World} (h : RSI on s w0 w) (hB : Below w.heap.size w w') : RSI on s w0 w' := by
  obtain ⟨qa, qc, ma, mc, QL, ML, e1, e2, h1, h2, h3, h4, h5⟩ := h
  exact ⟨qa, qc, ma, mc, QL, ML, e1, e2, keptG hB h1, keptG hB h2, h3.below hB, h4.below hB, h5.trans (hB.mono h5.size)⟩
theorem RowN.setG {b r o : Nat} {w : World} {v u : Value} {xs : List (List UInt8)} (h : RowN b w v xs) (hb : b = r) : RowN b (w.setCell ⟨r, o, none⟩ u) v xs := by subst hb; exact h.set
theorem FInv.notesOf {s : QM} {l : List (List UInt8)} (h : FInv s) : FInv (notesS s.1 s.2 l) := FInv.notes l h

set_option maxHeartbeats 8000000 in
set_option maxRecDepth 100000 in
theorem rstep20_walk (on : Bool) (qv mv ov : Value) (q m : List (List UInt8)) (o : List Snp) (z : Int) (n : Nat) (hz : max (0 : Int) (min z 1000) = (n : Int)) (w : World) (hon : on = true ∨ q = []) (hq : StrRow w qv q) (hmr : StrRow w mv m) (ho : SnpRow w ov o) (hol : o.length ≤ 1100000) (hraw : ∀ x ∈ o, x.2.length ≤ 1000000) (hf : FInv (q, m)) (hfew : 32 * m.length + rawsL o ≤ 32 * 10000) :
    Calls Tryz.prog 21 #[GcV on qv mv, ov, .int .i64 z] w (StepPost on (stepS o n (q, m)) w) := by
  have HQ := Lib.hid hq
  have HM := Lib.hid hmr
  have HO := Lib.hid ho
  have HRAW := Lib.hid hraw
  have HF := Lib.hid hf
  have HON := Lib.hid hon
  obtain ⟨qa, qc, rfl, _⟩ := hq
  obtain ⟨ma, mc, rfl, _⟩ := hmr
  obtain ⟨w1, hw1, HINV0⟩ : ∃ w1, w1 = (w.alloc (GCells on (.slice qa q.length qc) (.slice ma m.length mc))).alloc (GCells false (.slice none 0 0) (.slice none 0 0)) ∧ Hid (RSI on (stepS o 0 (q, m)) w w1) := by
    refine ⟨_, rfl, ?_⟩
    have hB : Below w.heap.size w ((w.alloc (GCells on (.slice qa q.length qc) (.slice ma m.length mc))).alloc (GCells false (.slice none 0 0) (.slice none 0 0))) := ((Below.refl _ _).alloc (Nat.le_refl _) _).alloc (by simp) _
    have hg := heap_old (o := GCells false (.slice none 0 0) (.slice none 0 0)) (heap_alloc_new w (GCells on (.slice qa q.length qc) (.slice ma m.length mc)))
    exact ⟨_, _, _, _, _, _, rfl, rfl, hg, heap_new' (by simp) _, RowN.of_boxG (HQ.out.below hB) hg, RowN.of_boxG (HM.out.below hB) hg, hB⟩
  have HBND := Lib.hid (fun j => show FInv (stepS o j (q, m)) ∧ (stepS o j (q, m)).2.length ≤ 10000 ∧ (stepS o j (q, m)).1.length ≤ 10000 from by
    obtain ⟨h1, h2⟩ := steps_few (o := o) (n := j) HF.out
    simp only at h1
    exact ⟨HF.out.steps j, by omega, by omega⟩)
  have HNIL := Lib.hid (fun j (hj : j ≤ n) (h : (stepS o j (q, m)).1 = []) => show stepS o n (q, m) = stepS o j (q, m) by
    obtain ⟨d, rfl⟩ : ∃ d, n = j + d := ⟨n - j, by omega⟩
    rw [stepS_add, stepS_nil h])
  have HSN := Lib.hid (fun j => stepS_snoc o j (q, m))
  have HOFF := Lib.hid (fun j (h : on = false) => show (stepS o j (q, m)).1 = [] from by
    rcases HON.out with h1 | h1
    · rw [h] at h1; cases h1
    · rw [stepS_nil (s := (q, m)) h1]; exact h1)
  clear hraw ho hf hon hfew
  go_enter Tryz.func21, Tryz.ntmps21
  go_upto_region 1 with fail
  rw [← hw1]
  clear hw1
  go_wp2
  go_loopw [7] (fun i wr => ∃ j : Nat, j ≤ n ∧ i = .int .i64 j ∧ RSI on (stepS o j (q, m)) w wr) (fun i _ => n - (intOf i).toNat)
  case atStart => exact ⟨0, Nat.zero_le _, rfl, HINV0.out⟩
  case round =>
    obtain ⟨j, hj, rfl, hinv⟩ := hrel
    clear HINV0
    obtain ⟨hfi, l2, l1⟩ := HBND.out j
    obtain ⟨qa2, qc2, ma2, mc2, QL, ML, hQL, hML, hbx, hbr, hq2, hm2, hBw⟩ := hinv
    by_cases h1 : j < n
    · have h1' : (j : Int) < z := by omega
      have h1k : (j : Int) < 1000 := by omega
      have HS := Lib.hid (HSN.out j)
      have HNL := Lib.hid (HNIL.out j hj)
      have HOF := Lib.hid (HOFF.out j)
      generalize stepS o j (q, m) = s at *
      obtain ⟨Q, M⟩ := s
      simp only at l1 l2 hq2 hm2 hQL hML
      cases Q with
      | nil =>
        have HRES := Lib.hid (HNL.out rfl)
        have h0 : ¬ (0 : Int) < (QL : Int) := by rw [← hQL]; simp
        clear HS HNL HOF hQL
        obtain ⟨y0, y1, y2⟩ := gcells hbx
        obtain ⟨r0, r1, r2⟩ := gcells hbr
        have s0 := is_some r0
        have s1 := is_some r1
        have s2 := is_some r2
        have f0 := heap_free hbr 0
        have f1 := heap_free hbr 1
        have f2 := heap_free hbr 2
        have HFIN := Lib.hid (fun x y z => show StepPost on (stepS o n (q, m)) w (.returned (GcV on (.slice qa2 QL qc2) (.slice ma2 ML mc2))) (((wr.setCell ⟨w.heap.size + 1, 0, none⟩ x).setCell ⟨w.heap.size + 1, 1, none⟩ y).setCell ⟨w.heap.size + 1, 2, none⟩ z) from
          ⟨_, _, rfl, by rw [HRES.out]; exact (((RowN.of_boxG hq2.row hbr).set).set).set.row, by rw [HRES.out]; exact (((RowN.of_boxG hm2.row hbr).set).set).set.row, below_setC (below_setC (below_setC hBw (by omega) 0 _) (by omega) 1 _) (by omega) 2 _⟩)
        clear hbx hbr hBw hq2 hm2
        go_wp2
        refine bodyPost_ret (v := GcV on (.slice qa2 QL qc2) (.slice ma2 ML mc2)) (by simp [results, Tryz.results21, go_sem, s0, s1, s2]) rfl ?_
        exact HFIN.out _ _ _
      | cons k Q =>
        have hon1 : on = true := by
          cases on with
          | true => rfl
          | false => have := HOF.out rfl; cases this
        subst hon1
        clear HNL HOF HOFF
        have hML0 := Lib.hid hML
        have hq9 : Q.length ≤ 10000 := by have h7 := l1; rw [List.length_cons] at h7; omega
        have hm9 : M.length ≤ 10000 := l2
        have hpos : (0 : Int) < (QL : Int) := by rw [← hQL]; simp
        have h1q : (1 : Int) ≤ (QL : Int) := by omega
        obtain ⟨y0, y1, y2⟩ := gcells hbx
        have HQ2 := Lib.hid hq2
        have HM2 := Lib.hid hm2
        have HBX := Lib.hid hbx
        have HBR := Lib.hid hbr
        have HBW := Lib.hid hBw
        have HFI := Lib.hid hfi
        have hQ1 : QL = Q.length + 1 := by rw [← hQL]; simp
        obtain ⟨a9, qcap, hv9, hqcc, hqmm, hqx⟩ := hq2
        have hcap : QL ≤ qc2 := by cases hv9; rw [hQL] at hqcc; exact hqcc
        have hqm9 : qc2 ≤ maxLen := by cases hv9; exact hqmm
        rcases hqx with hqx | ⟨g, o', ha9, hgb, hqx⟩
        · cases hqx
        obtain rfl : qa2 = some ⟨g, o', none⟩ := by cases hv9; exact ha9
        have hk0 := hqx 0 k rfl
        simp only [Nat.add_zero] at hk0
        have HQX := Lib.hid (fun j x (hj : Q[j]? = some x) => hqx (j + 1) x (by simpa using hj))
        clear hv9 hqcc hqmm hqx ha9 hm2
        have HNX := Lib.hid (nextS_cons o k Q M)
        have CG := rget_walk ov o k wr (HO.out.below hBw) hol
        have HRL := Lib.hid (show (rootOf (findR o k)).length ≤ 1000000 by
          cases hf : findR o k with
          | none => simp [rootOf]
          | some r =>
            unfold findR at hf
            rw [Option.map_eq_some_iff] at hf
            obtain ⟨x, hx, rfl⟩ := hf
            exact HRAW.out x (List.mem_of_find?_eq_some hx))
        have HTOT := Lib.hid (fun h => read_tot (s := rootOf (findR o k)) h)
        have HKB := Lib.hid (fun h => kids_bound (s := rootOf (findR o k)) h)
        have HKR := Lib.hid (show kidsO o k = if (readN (rootOf (findR o k))).2 = 0 then kidsN (readN (rootOf (findR o k))).1 else [] from rfl)
        generalize kidsO o k = kids at *
        generalize rootOf (findR o k) = raw at *
        generalize (findR o k).isSome = is at *
        unfold maxLen at hqm9
        clear hbx hbr hBw hfi hQL hML
        go_wp2_with fail
        refine CG.mono ?_
        rintro e w2 ⟨rfl, hb2⟩
        have hbx2 := keptG hb2 HBX.out
        obtain ⟨z0, z1, z2⟩ := gcells hbx2
        have s1 := is_some z1
        have f1 := heap_free hbx2 1
        have HB2 := Lib.hid hb2
        clear CG y0 y1 y2 hk0 hb2
        go_upto_region 6 with fail
        have hrow2 : RowN w.heap.size w2 (.slice (if qc2 = 1 then some (⟨g, o', none⟩ : Addr) else some ⟨g, o' + 1, none⟩) Q.length (qc2 - 1)) Q := by
          by_cases hq1 : qc2 = 1
          · refine ⟨_, _, rfl, by omega, by unfold maxLen; omega, .inl ?_⟩
            exact List.length_eq_zero_iff.1 (by omega)
          · rw [if_neg hq1]
            refine ⟨_, _, rfl, by omega, by unfold maxLen; omega, .inr ⟨g, o' + 1, rfl, hgb, fun j x hj => ?_⟩⟩
            have := cell_below HB2.out (HQX.out j x hj)
            rw [show o' + 1 + j = o' + (j + 1) by omega]
            exact this
        generalize (if qc2 = 1 then some (⟨g, o', none⟩ : Addr) else some ⟨g, o' + 1, none⟩) = qa3 at *
        obtain ⟨w3, hw3, HI3⟩ : ∃ w3, w3 = w2.setCell ⟨w.heap.size, 1, none⟩ (.slice qa3 Q.length (qc2 - 1)) ∧ Hid (RSI true (Q, M) w w3) :=
          ⟨_, rfl, by
            have h3 := heap_set_cell (o := 1) hbx2 (.slice qa3 Q.length (qc2 - 1))
            have hBw2 := HBW.out.trans (HB2.out.mono HBW.out.size)
            refine ⟨qa3, qc2 - 1, ma2, mc2, Q.length, M.length, rfl, rfl, by simpa [hML0.out] using h3, (Below.heap_setCell _ _ _ _ (by show w.heap.size + 1 ≠ w.heap.size; omega)).trans (keptG HB2.out HBR.out), hrow2.set, ?_, below_setC hBw2 (Nat.le_refl _) 1 _⟩
            have h7 := HM2.out.below HB2.out
            rw [← hML0.out] at h7
            exact h7.set⟩
        rw [← hw3]
        clear hw3 z0 z1 z2 s1 f1 hbx2 hrow2 HQ2 HM2 HBX HBR HBW HB2 HQX
        have HF3 := Lib.hid (show FInv (Q, M) from ⟨HFI.out.up, HFI.out.len, fun x hx => HFI.out.sub x (List.mem_cons_of_mem _ hx), (List.nodup_cons.1 HFI.out.nd).2⟩)
        have CR := rread11_walk raw w3 HRL.out
        go_wp2_with fail
        refine CR.mono ?_
        rintro e w4 ⟨vp, ve, rfl, hnr, hb4⟩
        obtain ⟨va, vc, rfl⟩ := row_slice hnr.parts
        obtain ⟨ua, uc, rfl⟩ := row_slice hnr.ents
        obtain ⟨w5, hw5, HB5, hz5⟩ : ∃ w5, w5 = w4.alloc (.cells #[.int .i64 (readN raw).1.kind, S (readN raw).1.data, .slice va (readN raw).1.parts.length vc, .slice ua (readN raw).1.ents.length uc] 54) ∧ Hid (Below w3.heap.size w3 w5) ∧ w5.heap[w4.heap.size]? = some (.cells #[.int .i64 (readN raw).1.kind, S (readN raw).1.data, .slice va (readN raw).1.parts.length vc, .slice ua (readN raw).1.ents.length uc] 54 (0, 0)) :=
          ⟨_, rfl, hb4.alloc hb4.size _, heap_alloc_new _ _⟩
        have HN5 := Lib.hid (hnr.below (show Below w4.heap.size w4 w5 by rw [hw5]; exact (Below.refl _ _).alloc (Nat.le_refl _) _))
        obtain ⟨⟨z0, z1, z2, z3⟩, -, -⟩ := box4 hz5
        obtain ⟨nd, hnd⟩ : ∃ nd, (readN raw).1 = nd := ⟨_, rfl⟩
        obtain ⟨er, her⟩ : ∃ er, (readN raw).2 = er := ⟨_, rfl⟩
        rw [hnd] at z0 z1 z2 z3 HN5 hw5 HTOT HKB HKR
        rw [her] at HTOT HKB HKR
        rw [hnd, her]
        have HI5 := Lib.hid (HI3.out.below HB5.out)
        clear CR hnd her hnr hb4 hz5
        by_cases h0e : er = 0
        case neg =>
          have hq0 : (er != 0) = true := by rw [bne_iff_ne]; exact h0e
          have HRES := Lib.hid (show stepS o (j + 1) (q, m) = (Q, M) by rw [HS.out, HNX.out, HKR.out, if_neg h0e]; rfl)
          clear h0e z0 z1 z2 z3
          go_upto_region 7 with fail
          rw [← hw5]
          clear hw5
          go_wp2
          go_roundw
          case rel => exact ⟨j + 1, by omega, by go_num, by rw [HRES.out]; exact HI5.out⟩
          case measure => simp [intOf]; omega
        have hq0 : (er != 0) = false := by rw [bne_eq_false_iff_eq]; exact h0e
        have htot := HTOT.out h0e
        have hkb := HKB.out h0e
        have HKD := Lib.hid (show kids = kidsN nd by rw [HKR.out, if_pos h0e])
        have CK := rkids_walk (.slice va nd.parts.length vc) (.slice ua nd.ents.length uc) nd w5 HN5.out (by omega)
        rw [← HKD.out] at CK hkb
        clear h0e HKR HTOT HKB
        go_upto_region 7 with fail
        rw [← hw5]
        clear hw5
        go_wp2_with fail
        refine CK.mono ?_
        rintro e w6 ⟨v6, rfl, hr6, hb6⟩
        have HI6 := Lib.hid (HI5.out.below hb6)
        have HK6 := Lib.hid (show RowN w.heap.size w6 v6 kids from by
          obtain ⟨_, _, _, _, _, _, _, _, hg6, _⟩ := HI6.out
          exact RowN.of_boxG hr6 hg6)
        obtain ⟨ka, kc, rfl, hkc, -, -⟩ := hr6
        clear CK z0 z1 z2 z3 hb6 HN5 HB5 HI5 HI3
        go_wp2
        go_loopw [13] (fun i wr2 => ∃ t : Nat, t ≤ kids.length ∧ i = .int .i64 t ∧ RSI true (notesS Q M (kids.take t)) w wr2 ∧ RowN w.heap.size wr2 (.slice ka kids.length kc) kids) (fun i _ => kids.length - (intOf i).toNat)
        case atStart => exact ⟨0, Nat.zero_le _, rfl, HI6.out, HK6.out⟩
        case round =>
          clear HI6 HK6
          obtain ⟨t, ht, rfl, hrs, hkr⟩ := hrel
          obtain ⟨hs1, hs2, hs3⟩ := notesS_inv Q M (kids.take t) HF3.out.up
          rw [List.length_take, Nat.min_eq_left ht] at hs1 hs2
          by_cases h2 : t < kids.length
          · have h2' : (t : Int) < (kids.length : Int) := by omega
            have HKR := Lib.hid hkr
            have HST := Lib.hid (notesS_step (q := Q) (m := M) h2)
            obtain ⟨a7, c7, hv7, -, -, hkx⟩ := hkr
            obtain ⟨e1, e2⟩ : ka = a7 ∧ kc = c7 := by cases hv7; exact ⟨rfl, rfl⟩
            subst e1 e2
            clear hv7
            rcases hkx with hkx | ⟨kb, ko, rfl, hkbn, hkx⟩
            · exfalso; rw [hkx] at h2; simp at h2
            have hc2 := str_cell hkx h2
            have HRS := Lib.hid hrs
            obtain ⟨qa4, qc4, ma4, mc4, QL4, ML4, hQL4, hML4, hbx4, hbr4, hq4, hm4, hBw4⟩ := hrs
            obtain ⟨y0, y1, y2⟩ := gcells hbx4
            have l0 := LaterOf.cell y0
            have l1 := LaterOf.cell y1
            have l2 := LaterOf.cell y2
            have l3 := LaterOf.cell hc2
            have HQ4 := Lib.hid hq4
            have HM4 := Lib.hid hm4
            have HBX4 := Lib.hid hbx4
            have HBR4 := Lib.hid hbr4
            have HBW4 := Lib.hid hBw4
            clear hkx hq4 hm4 hbx4 hbr4 hBw4 HRS
            generalize kids[t] = y at *
            generalize notesS Q M (kids.take t) = s4 at *
            go_upto_region 12 with fail
            (refine wp_tail_quick 5 2 rfl (by kernel_rfl) (by kernel_rfl) (by kernel_rfl) (by kernel_rfl) ?_; simp only [List.take_succ_cons, List.take_zero]; (repeat (go_big_quiet_step (fail))); refine wpQuiet_nil ?_; intro _ hw1; obtain ⟨lw, hw2⟩ := hw1; subst hw2)
            have CN := rnote20_walk true (.slice qa4 QL4 qc4) (.slice ma4 ML4 mc4) s4.1 s4.2 y lw.world (HQ4.out.below lw.below).row (HM4.out.below lw.below).row (by omega) (by omega) hs3
            have HL := Lib.hid lw.below
            refine wpAny_ready (rs := [5]) (by kernel_rfl) (by simp) ?_
            refine AllReady.cons rfl (fun K hK => ?_) AllReady.nil
            go_simp
            refine CN.mono ?_
            rintro e w8 ⟨qv8, mv8, rfl, hq8, hm8, hb8⟩
            have hB8 := HL.out.trans (hb8.mono HL.out.size)
            have hbx8 := keptG hB8 HBX4.out
            have hbr8 := keptG hB8 HBR4.out
            have hBw8 := HBW4.out.trans (hB8.mono HBW4.out.size)
            have HK8 := Lib.hid (HKR.out.below hB8)
            obtain ⟨qa8, qc8, rfl, -⟩ := id hq8
            obtain ⟨ma8, mc8, rfl, -⟩ := id hm8
            have HP := Lib.hid (RSI.put (s := noteS s4 y) hbx8 hbr8 hq8 hm8 hBw8)
            obtain ⟨x0, x1, x2⟩ := gcells hbx8
            have s0 := is_some x0
            have s1 := is_some x1
            have s2 := is_some x2
            have f0 := heap_free hbx8 0
            have f1 := heap_free hbx8 1
            have f2 := heap_free hbx8 2
            refine hK _ _ ?_
            clear hK K CN hq8 hm8 hb8 hbx8 hbr8 hBw8 hB8 l0 l1 l2 l3
            (refine wpAny_ready (rs := [6]) (by kernel_rfl) (by simp) ?_; refine AllReady.cons rfl (fun K hK => ?_) AllReady.nil; go_simp; refine hK _ _ ?_; clear hK K)
            refine wpAny_done (by kernel_rfl) ?_ _
            go_wp2
            go_roundw
            case rel => exact ⟨t + 1, by omega, by go_num, by rw [HST.out]; exact HP.out, ((HK8.out.set).set).set⟩
            case measure => simp [intOf]; omega
          · have h2' : ¬ (t : Int) < (kids.length : Int) := by omega
            obtain rfl : t = kids.length := by omega
            rw [List.take_of_length_le (Nat.le_refl _)] at hrs
            have HRS := Lib.hid hrs
            have HRES := Lib.hid (show stepS o (j + 1) (q, m) = notesS Q M kids by rw [HS.out, HNX.out])
            clear hrs hkr
            go_wp2
            go_roundw
            case rel => exact ⟨j + 1, by omega, by go_num, by rw [HRES.out]; exact HRS.out⟩
            case measure => simp [intOf]; omega
    · have hcut : (¬ (j : Int) < z) ∨ ((j : Int) < z ∧ ¬ (j : Int) < 1000) := by
        by_cases h : (j : Int) < z
        · exact .inr ⟨h, by omega⟩
        · exact .inl h
      obtain rfl : n = j := by omega
      have HRES := Lib.hid (show stepS o n (q, m) = stepS o n (q, m) from rfl)
      rcases hcut with h1' | ⟨h1', h1k⟩
      · clear h1
        obtain ⟨y0, y1, y2⟩ := gcells hbx
        obtain ⟨r0, r1, r2⟩ := gcells hbr
        have s0 := is_some r0
        have s1 := is_some r1
        have s2 := is_some r2
        have f0 := heap_free hbr 0
        have f1 := heap_free hbr 1
        have f2 := heap_free hbr 2
        have HFIN := Lib.hid (fun x y z => show StepPost on (stepS o n (q, m)) w (.returned (GcV on (.slice qa2 QL qc2) (.slice ma2 ML mc2))) (((wr.setCell ⟨w.heap.size + 1, 0, none⟩ x).setCell ⟨w.heap.size + 1, 1, none⟩ y).setCell ⟨w.heap.size + 1, 2, none⟩ z) from
          ⟨_, _, rfl, by rw [HRES.out]; exact (((RowN.of_boxG hq2.row hbr).set).set).set.row, by rw [HRES.out]; exact (((RowN.of_boxG hm2.row hbr).set).set).set.row, below_setC (below_setC (below_setC hBw (by omega) 0 _) (by omega) 1 _) (by omega) 2 _⟩)
        clear hbx hbr hBw hq2 hm2
        go_wp2
        refine bodyPost_ret (v := GcV on (.slice qa2 QL qc2) (.slice ma2 ML mc2)) (by simp [results, Tryz.results21, go_sem, s0, s1, s2]) rfl ?_
        exact HFIN.out _ _ _
      · clear h1
        obtain ⟨y0, y1, y2⟩ := gcells hbx
        obtain ⟨r0, r1, r2⟩ := gcells hbr
        have s0 := is_some r0
        have s1 := is_some r1
        have s2 := is_some r2
        have f0 := heap_free hbr 0
        have f1 := heap_free hbr 1
        have f2 := heap_free hbr 2
        have HFIN := Lib.hid (fun x y z => show StepPost on (stepS o n (q, m)) w (.returned (GcV on (.slice qa2 QL qc2) (.slice ma2 ML mc2))) (((wr.setCell ⟨w.heap.size + 1, 0, none⟩ x).setCell ⟨w.heap.size + 1, 1, none⟩ y).setCell ⟨w.heap.size + 1, 2, none⟩ z) from
          ⟨_, _, rfl, by rw [HRES.out]; exact (((RowN.of_boxG hq2.row hbr).set).set).set.row, by rw [HRES.out]; exact (((RowN.of_boxG hm2.row hbr).set).set).set.row, below_setC (below_setC (below_setC hBw (by omega) 0 _) (by omega) 1 _) (by omega) 2 _⟩)
        clear hbx hbr hBw hq2 hm2
        go_wp2
        refine bodyPost_ret (v := GcV on (.slice qa2 QL qc2) (.slice ma2 ML mc2)) (by simp [results, Tryz.results21, go_sem, s0, s1, s2]) rfl ?_
        exact HFIN.out _ _ _
end Go.Proofs.YtengciicdnkgaaaGreatDoor
