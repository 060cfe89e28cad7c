/- A collection is told of keys, one by one (mark, at any list). -/
import Derived.Test.YtengciicdnkgaaaGreatDoorGcDefs
import Derived.Test.YtengciicdnkgaaaGreatDoorGcCmp
import Derived.Test.YtengciicdnkgaaaGreatDoorJClo
namespace Go.Proofs.YtengciicdnkgaaaGreatDoor
open Go.RowKit

/-- A row of texts that does not lie in block b. -/
def RowN (b : Nat) (w : World) (v : Value) (xs : List (List UInt8)) : Prop :=
  ∃ a c, v = .slice a xs.length c ∧ xs.length ≤ c ∧ c ≤ maxLen ∧ (xs = [] ∨ ∃ g o, a = some ⟨g, o, none⟩ ∧ g ≠ b ∧ ∀ j x, xs[j]? = some x → w.cell? ⟨g, o + j, none⟩ = some (S x))
theorem RowN.row {b : Nat} {w : World} {v : Value} {xs : List (List UInt8)} (h : RowN b w v xs) : StrRow w v xs := by
  obtain ⟨a, c, hv, hc, hm, hx⟩ := h
  exact ⟨a, c, hv, hc, hm, hx.imp id fun ⟨g, o, ha, _, hx⟩ => ⟨g, o, ha, hx⟩⟩
theorem RowN.below {b : Nat} {w w' : World} {v : Value} {xs : List (List UInt8)} (h : RowN b w v xs) (hb : Below w.heap.size w w') : RowN b w' v xs := by
  obtain ⟨a, c, hv, hc, hm, hx⟩ := h
  exact ⟨a, c, hv, hc, hm, hx.imp id fun ⟨g, o, ha, hne, hx⟩ => ⟨g, o, ha, hne, fun j x hj => cell_below hb (hx j x hj)⟩⟩
theorem cell_setOther {w : World} {b o g o' : Nat} {u v : Value} (hne : g ≠ b) (h : w.cell? ⟨g, o', none⟩ = some v) : (w.setCell ⟨b, o, none⟩ u).cell? ⟨g, o', none⟩ = some v := by
  rw [← h]
  simp only [World.cell?, World.setCell, Array.getElem?_modify]
  rw [if_neg (fun e => hne e.symm)]
theorem RowN.set {b o : Nat} {w : World} {v u : Value} {xs : List (List UInt8)} (h : RowN b w v xs) : RowN b (w.setCell ⟨b, o, none⟩ u) v xs := by
  obtain ⟨a, c, hv, hc, hm, hx⟩ := h
  exact ⟨a, c, hv, hc, hm, hx.imp id fun ⟨g, o, ha, hne, hx⟩ => ⟨g, o, ha, hne, fun j x hj => cell_setOther hne (hx j x hj)⟩⟩
theorem RowN.of_row {b : Nat} {w w' : World} {v : Value} {xs : List (List UInt8)} (h : StrRow w v xs) (hw : w.heap.size ≤ b) (hb : Below w.heap.size w w') : RowN b w' v xs := by
  obtain ⟨a, c, hv, hc, hm, hx⟩ := h
  refine ⟨a, c, hv, hc, hm, ?_⟩
  rcases hx with hx | ⟨g, o, ha, hx⟩
  · exact .inl hx
  · cases xs with
    | nil => exact .inl rfl
    | cons x xs =>
      have h0 := hx 0 x rfl
      have hg : g < w.heap.size := lt_of_cell h0
      exact .inr ⟨g, o, ha, by omega, fun j x hj => cell_below hb (hx j x hj)⟩
theorem RowN.of_owns {b base e : Nat} {w : World} {v : Value} {xs : List (List UInt8)} (h : w.ownsRow base e 1 v xs.length (xs.map S)) (hb : b < base) : RowN b w v xs := by
  obtain ⟨a, c, hv, hc, hm, hx⟩ := StrRow.of_owns h
  refine ⟨a, c, hv, hc, hm, ?_⟩
  rcases hx with hx | ⟨g, o, ha, hx⟩
  · exact .inl hx
  · refine .inr ⟨g, o, ha, ?_, hx⟩
    have := (h.lt g (by rw [hv, ha]; rfl)).1
    omega
def noteS (s : List (List UInt8) × List (List UInt8)) (k : List UInt8) : List (List UInt8) × List (List UInt8) := (noteQ true s.1 s.2 k, noteM true s.2 k)
def notesS (q m l : List (List UInt8)) : List (List UInt8) × List (List UInt8) := l.foldl noteS (q, m)
theorem notesS_step {q m l : List (List UInt8)} {j : Nat} (h : j < l.length) : notesS q m (l.take (j + 1)) = noteS (notesS q m (l.take j)) l[j] := by
  unfold notesS
  rw [List.take_succ_eq_append_getElem h, List.foldl_append]; rfl
theorem noteQ_len (q m : List (List UInt8)) (k : List UInt8) : (noteQ true q m k).length ≤ q.length + 1 := by
  unfold noteQ; split <;> simp
theorem noteM_len (m : List (List UInt8)) (k : List UInt8) : (noteM true m k).length ≤ m.length + 1 := by
  unfold noteM; split
  · unfold addL
    split
    · omega
    · exact with_len (key := id) m k
  · omega
theorem noteM_upL {m : List (List UInt8)} {k : List UInt8} (h : upS m) : upS (noteM true m k) := by
  unfold noteM; split
  · exact addL_up h
  · exact h
theorem notesS_inv (q m l : List (List UInt8)) (hu : upS m) : (notesS q m l).1.length ≤ q.length + l.length ∧ (notesS q m l).2.length ≤ m.length + l.length ∧ upS (notesS q m l).2 := by
  unfold notesS
  induction l generalizing q m with
  | nil => exact ⟨by simp, by simp, hu⟩
  | cons k l ih =>
    have h := ih (noteQ true q m k) (noteM true m k) (noteM_upL hu)
    have h1 := noteQ_len q m k
    have h2 := noteM_len m k
    simp only [List.foldl_cons, List.length_cons, noteS]
    exact ⟨by omega, by omega, h.2.2⟩
def MarkInv (b : Nat) (on : Bool) (s : List (List UInt8) × List (List UInt8)) (lv : Value) (l : List (List UInt8)) (w wr : World) : Prop :=
  ∃ qv mv, MGBox wr b on qv mv ∧ RowN b wr qv s.1 ∧ RowN b wr mv s.2 ∧ RowN b wr lv l ∧ Below b w wr

set_option maxHeartbeats 8000000 in
set_option maxRecDepth 100000 in
theorem markL_walk (b : Nat) (on : Bool) (qv mv lv : Value) (q m l : List (List UInt8)) (w : World) (hm : MGBox w b on qv mv) (hq : RowN b w qv q) (hmr : RowN b w mv m) (hl : RowN b w lv l) (hql : q.length + l.length ≤ 1099000) (hml : m.length + l.length ≤ 1099000) (hup : upS m) :
    Calls Tryz.prog 28 #[.pointer (some ⟨b, 0, none⟩), lv] w fun e w' => e = .returned (.tuple #[]) ∧ MarkInv b on (notesS q m l) lv l w w' := by
  have HINV0 := Lib.hid (show MarkInv b on (notesS q m (l.take 0)) lv l w w from ⟨qv, mv, hm, hq, hmr, hl, Below.refl _ _⟩)
  have HUP := Lib.hid hup
  obtain ⟨la, lc, rfl, hlc, hlm, -⟩ := hl
  obtain ⟨i0, hi, hz0, hz1, hz2⟩ := info_parts infoStr
  clear hm hq hmr hup
  go_enter Tryz.func28, Tryz.ntmps28
  go_wp2
  go_loopw [10] (fun i wr => ∃ j : Nat, j ≤ l.length ∧ i = .int .i64 j ∧ MarkInv b on (notesS q m (l.take j)) (.slice la l.length lc) l w wr) (fun i _ => l.length - (intOf i).toNat)
  case atStart => exact ⟨0, Nat.zero_le _, rfl, HINV0.out⟩
  case round =>
    obtain ⟨j, hj, rfl, hinv⟩ := hrel
    clear HINV0
    by_cases h1 : j < l.length
    · have h1' : (j : Int) < (l.length : Int) := by omega
      have HST := Lib.hid (notesS_step (q := q) (m := m) h1)
      obtain ⟨hs1, hs2, hs3⟩ := notesS_inv q m (l.take j) HUP.out
      rw [List.length_take, Nat.min_eq_left hj] at hs1 hs2
      obtain ⟨qv, mv, hmg, hq, hmr, hlr, hB⟩ := hinv
      generalize notesS q m (l.take j) = s at *
      obtain ⟨Q, M⟩ := s
      simp only at hs1 hs2 hs3 hq hmr
      have HLR := Lib.hid hlr
      have HQR := Lib.hid hq
      have HMR := Lib.hid hmr
      have HMG := Lib.hid hmg
      have HB := Lib.hid hB
      obtain ⟨la', lc', hv', -, -, hx⟩ := hlr
      obtain ⟨e1, e2⟩ : la = la' ∧ lc = lc' := by cases hv'; exact ⟨rfl, rfl⟩
      subst e1 e2
      clear hv'
      rcases hx with hx | ⟨g, o, rfl, hgb, hx⟩
      · exfalso; rw [hx] at h1; simp at h1
      have hk0 := str_cell hx h1
      clear hx
      generalize l[j] = k at *
      obtain ⟨qa, qc, rfl, hqc, hqm, -⟩ := hq
      obtain ⟨ma, mc, rfl, hmc, hmm, -⟩ := hmr
      have hbw := heap_lt hmg
      have hm2 := heap_cell hmg (j := 2) (v := .slice ma M.length mc) rfl
      have C := bsStr_walk (.slice ma M.length mc) M k wr HMR.out.row (by omega) hs3
      clear hB hmg
      by_cases hin : k ∈ M
      · have hNS := Lib.hid (show noteS (Q, M) k = (Q, M) by
          unfold noteS noteQ noteM
          rw [if_neg (fun h => h.2.2 hin), if_neg (fun h => h.2.2 hin)])
        rw [decide_eq_true hin] at C
        generalize posL M k = p at *
        clear hin hs3
        go_wp2_with fail
        refine C.mono ?_
        rintro e w1 ⟨rfl, hb1⟩
        have HB1 := Lib.hid hb1
        clear C hb1 hm2 hk0
        go_wp2
        go_roundw
        case rel => exact ⟨j + 1, by omega, by go_num, by rw [HST.out, hNS.out]; exact ⟨_, _, keptG HB1.out HMG.out, HQR.out.below HB1.out, HMR.out.below HB1.out, HLR.out.below HB1.out, HB.out.trans (HB1.out.mono (by omega))⟩⟩
        case measure => simp [intOf]; omega
      rw [decide_eq_false hin] at C
      by_cases h32 : k.length = 32
      case neg =>
        have hNS := Lib.hid (show noteS (Q, M) k = (Q, M) by
          unfold noteS noteQ noteM
          rw [if_neg (fun h => h32 h.2.1), if_neg (fun h => h32 h.2.1)])
        have h32' : ((k.length : Int) != 32) = true := by rw [bne_iff_ne]; omega
        generalize posL M k = p at *
        clear hin hs3 h32
        go_wp2_with fail
        refine C.mono ?_
        rintro e w1 ⟨rfl, hb1⟩
        have HB1 := Lib.hid hb1
        clear C hb1 hm2 hk0
        go_wp2
        go_roundw
        case rel => exact ⟨j + 1, by omega, by go_num, by rw [HST.out, hNS.out]; exact ⟨_, _, keptG HB1.out HMG.out, HQR.out.below HB1.out, HMR.out.below HB1.out, HLR.out.below HB1.out, HB.out.trans (HB1.out.mono (by omega))⟩⟩
        case measure => simp [intOf]; omega
      have h32' : ((k.length : Int) != 32) = false := by rw [bne_eq_false_iff_eq]; omega
      have hNQ := Lib.hid (show noteQ true Q M k = Q ++ [k] from if_pos ⟨rfl, h32, hin⟩)
      have hNM := Lib.hid (show noteM true M k = M.take (posL M k) ++ k :: M.drop (posL M k) by
        have h1 : noteM true M k = addL M k := if_pos ⟨rfl, h32, hin⟩
        have h2 := withK_up (key := (id : List UInt8 → List UInt8)) (l := M) (f := k) (by simpa using hs3)
        rw [h1]
        unfold addL
        rw [if_neg hin, h2]
        simp [hin])
      have hpl := posL_le M k
      generalize posL M k = p at *
      clear hin hs3 h32
      go_wp2_with fail
      refine C.mono ?_
      rintro e w1 ⟨rfl, hb1⟩
      have hm1 : MGBox w1 b on _ _ := keptG hb1 HMG.out
      have hb1w := heap_lt hm1
      have HQ1 := Lib.hid (HQR.out.below hb1)
      have HM1 := Lib.hid (HMR.out.below hb1)
      have HL1 := Lib.hid (HLR.out.below hb1)
      have HBW1 := Lib.hid (HB.out.trans (hb1.mono (by omega) : Below b wr w1))
      have c2 := heap_cell hm1 (j := 2) (v := .slice ma M.length mc) rfl
      have hkc1 := cell_below hb1 hk0
      have CC := cloStr_walk w1.heap.size ma M.length mc (M.map S) w1 (Nat.le_refl _) (by omega) (by simp) (str_flat HM1.out.row) (mapS_one M)
      clear C hm2 hk0 hb1
      go_wp2_with fail
      refine CC.mono ?_
      rintro e w2 ⟨v2, rfl, hown2, hb2⟩
      have hm2 : MGBox w2 b on _ _ := keptG hb2 hm1
      obtain ⟨a2, n2, c2', rfl⟩ := own_slice hown2
      have hlt2 := hown2.lt
      have hz2' := hb2.size
      have CI := insStr_walkR w1.heap.size (.slice a2 n2 c2') M.length p w2.heap.size (M.map S) [S k] (w2.alloc (.cells #[S k] 9)) (hown2.alloc _) hpl (by rw [World.size_alloc]; omega) (by omega) rfl (heap_alloc_new _ _) (s_one k) (mapS_one M) (fun e => by have := (hlt2 _ e).2; omega)
      clear CC c2
      go_wp2_with fail
      refine CI.mono ?_
      rintro e w3 ⟨v3, rfl, hown3, hb3, _⟩
      obtain ⟨a3, n3, c3, rfl⟩ := own_slice hown3
      have hb13 : Below w1.heap.size w1 w3 := (hb2.alloc hz2' _).trans hb3
      have hm3 : MGBox w3 b on _ _ := keptG hb13 hm1
      have c2 := heap_cell hm3 (j := 2) (v := .slice ma M.length mc) rfl
      have s2 := is_some c2
      have f2 := heap_free hm3 2
      obtain ⟨w4, hw4, hm4, HB4, hown4, HQ4, HL4⟩ : ∃ w4, w4 = w3.setCell ⟨b, 2, none⟩ (.slice a3 n3 c3) ∧ MGBox w4 b on (.slice qa Q.length qc) (.slice a3 n3 c3) ∧ Hid (Below b w w4) ∧ World.ownsRow w4 w1.heap.size 9 1 (.slice a3 n3 c3) (M.length + 1) ((M.map S).take p ++ ([S k] ++ (M.map S).drop p)) ∧ Hid (RowN b w4 (.slice qa Q.length qc) Q) ∧ Hid (RowN b w4 (.slice (some ⟨g, o, none⟩) l.length lc) l) :=
        ⟨_, rfl, mg_set2 hm3 _, below_setC (HBW1.out.trans (hb13.mono (by omega))) (Nat.le_refl _) 2 _, own_set hown3 hb1w, (HQ1.out.below hb13).set, (HL1.out.below hb13).set⟩
      have HM4 := Lib.hid (show RowN b w4 (.slice a3 n3 c3) (M.take p ++ k :: M.drop p) by
        refine RowN.of_owns (base := w1.heap.size) (e := 9) ?_ hb1w
        have e1 : (M.take p ++ k :: M.drop p).length = M.length + 1 := by simp; omega
        rw [e1]
        simpa [List.map_take, List.map_drop] using hown4)
      clear CI hown3 hown2 hown4 hlt2
      go_upto_region 6 with fail
      rw [← hw4]
      clear hw4 c2 s2 f2 hm3 hm2 hm1 hb13 hb3 hb2 hz2'
      have hb4w := heap_lt hm4
      have c1 := heap_cell hm4 (j := 1) (v := .slice qa Q.length qc) rfl
      have CQ := cloStr_walk w4.heap.size qa Q.length qc (Q.map S) w4 (Nat.le_refl _) (by omega) (by simp) (str_flat HQ4.out.row) (mapS_one Q)
      go_wp2_with fail
      refine CQ.mono ?_
      rintro e w5 ⟨v5, rfl, hown5, hb5⟩
      obtain ⟨a5, n5, c5, rfl⟩ := own_slice hown5
      have hz5 := hb5.size
      clear CQ c1
      go_wp2_with (at_builtin; refine wpList_append_own _ rfl _ _ 22 rfl w4.heap.size 9 i0 (.string ⟨#[]⟩) 1 16 Tryz.underlying22 hi hz0 hz1 hz2 rfl (by decide) _ _ _ rfl (hown5.alloc _) ⟨w5.heap.size, 0, none⟩ 1 1 [S k] rfl rfl (new_cell_at rfl _ _) (s_one _) (by unfold maxLen; omega) (by omega) (by rw [World.size_alloc]; omega) ?_)
      intro v6 w6 hown6 hgrow6 _
      have hb6 : Below w4.heap.size w4 w6 := (hb5.alloc hz5 (.cells #[S k] 9)).grown hgrow6 (by rw [World.size_alloc]; omega) (fun j hj => (hown5.lt j hj).1)
      obtain ⟨a6, n6, c6, rfl⟩ := own_slice hown6
      have hm6 : MGBox w6 b on (.slice qa Q.length qc) (.slice a3 n3 c3) := keptG hb6 hm4
      have c1 := heap_cell hm6 (j := 1) (v := .slice qa Q.length qc) rfl
      have s1 := is_some c1
      have f1 := heap_free hm6 1
      have HQ7 := Lib.hid (show RowN b (w6.setCell ⟨b, 1, none⟩ (.slice a6 n6 c6)) (.slice a6 n6 c6) (Q ++ [k]) by
        refine RowN.set (RowN.of_owns (base := w4.heap.size) (e := 9) ?_ hb4w)
        simpa using hown6)
      have HM7 := Lib.hid ((HM4.out.below hb6).set (o := 1) (u := .slice a6 n6 c6))
      have HL7 := Lib.hid ((HL4.out.below hb6).set (o := 1) (u := .slice a6 n6 c6))
      have HG7 := Lib.hid (mg_set1 hm6 (.slice a6 n6 c6))
      have HB7 := Lib.hid (below_setC (HB4.out.trans (hb6.mono (by omega))) (Nat.le_refl _) 1 (.slice a6 n6 c6))
      clear hown5 hown6 hgrow6 hb5 hb6 hm6 hm4
      go_wp2
      go_roundw
      case rel => exact ⟨j + 1, by omega, by go_num, by rw [HST.out]; unfold noteS; rw [hNQ.out, hNM.out]; exact ⟨_, _, HG7.out, HQ7.out, HM7.out, HL7.out, HB7.out⟩⟩
      case measure => simp [intOf]; omega
    · have h1' : ¬ (j : Int) < (l.length : Int) := by omega
      obtain rfl : j = l.length := by omega
      rw [List.take_of_length_le (Nat.le_refl _)] at hinv
      have HI := Lib.hid hinv
      clear hinv
      go_wp2
      go_end0
      exact ⟨rfl, HI.out⟩
end Go.Proofs.YtengciicdnkgaaaGreatDoor
