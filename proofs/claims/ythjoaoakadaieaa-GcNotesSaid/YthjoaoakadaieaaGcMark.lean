/- A collection is told of a key (mark, Note). -/
import Derived.Test.YthjoaoakadaieaaGcCmp
import Derived.Test.YthjoaoakadaieaaKeysRef2
import Derived.Test.YthjoaoakadaieaaInsStr
import Derived.Test.YthjoaoakadaieaaCloStr
import Derived.Test.YthjoaoakadaieaaMAct
namespace Go.Proofs.Ythjoaoakadaieaa
open Go.RowKit

abbrev GcV (on : Bool) (qv mv : Value) : Value := .agg #[.bool on, qv, mv]
abbrev GCells (on : Bool) (qv mv : Value) : Obj := .cells #[.bool on, qv, mv] 24 (0, 0)
abbrev MGBox (w : World) (b : Nat) (on : Bool) (qv mv : Value) : Prop := w.heap[b]? = some (.cells #[.bool on, qv, mv] 65 (0, 0))
/-- What a collection is behind a key's telling. -/
def noteQ (on : Bool) (q m : List (List UInt8)) (k : List UInt8) : List (List UInt8) := if on = true ∧ k.length = 32 ∧ k ∉ m then q ++ [k] else q
def noteM (on : Bool) (m : List (List UInt8)) (k : List UInt8) : List (List UInt8) := if on = true ∧ k.length = 32 ∧ k ∉ m then addL m k else m
/-- A row that lay ahead of block b's making, or one of the call's own. -/
def RowAt (b : Nat) (w0 w : World) (v : Value) (xs : List (List UInt8)) : Prop := StrRow w0 v xs ∨ w.ownsRow (b + 1) 9 1 v xs.length (xs.map S)
theorem str_flat {w : World} {a : Option Addr} {c : Nat} {l : List (List UInt8)} (hr : StrRow w (.slice a l.length c) l) : l.map S = [] ∨ ∃ b o, a = some ⟨b, o, none⟩ ∧ ∀ j u, (l.map S)[j]? = some u → w.cell? ⟨b, o + j, none⟩ = some u := by
  obtain ⟨a', c', hv, _, _, hx⟩ := hr
  cases hv
  rcases hx with hx | ⟨b, o, ha, hx⟩
  · exact .inl (by rw [hx]; rfl)
  · refine .inr ⟨b, o, ha, fun j u hj => ?_⟩
    rw [List.getElem?_map] at hj
    cases hlj : l[j]? with
    | none => rw [hlj] at hj; cases hj
    | some x => rw [hlj] at hj; cases hj; exact hx j x hlj
theorem mapS_one (l : List (List UInt8)) : ∀ u ∈ l.map S, u.oneCell' = true := by
  intro u hu; obtain ⟨x, _, rfl⟩ := List.mem_map.1 hu; rfl
theorem mg_set2 {w : World} {b : Nat} {on : Bool} {qv mv : Value} (h : MGBox w b on qv mv) (u : Value) : MGBox (w.setCell ⟨b, 2, none⟩ u) b on qv u := by
  have := heap_set_cell (o := 2) h u; simpa using this
theorem mg_set1 {w : World} {b : Nat} {on : Bool} {qv mv : Value} (h : MGBox w b on qv mv) (u : Value) : MGBox (w.setCell ⟨b, 1, none⟩ u) b on u mv := by
  have := heap_set_cell (o := 1) h u; simpa using this

theorem keptG {w w' : World} {b : Nat} {X : Obj} (hb : Below w.heap.size w w') (h : w.heap[b]? = some X) : w'.heap[b]? = some X := (hb.block _ (heap_lt h)).trans h
def MarkPost (b : Nat) (on : Bool) (q m : List (List UInt8)) (k : List UInt8) (w0 w w' : World) : Prop :=
  ∃ qv' mv', MGBox w' b on qv' mv' ∧ RowAt b w0 w' qv' (noteQ true q m k) ∧ RowAt b w0 w' mv' (noteM true m k) ∧ Below b w w'

set_option maxHeartbeats 4000000 in
set_option maxRecDepth 100000 in
theorem mark_walk (b : Nat) (on : Bool) (qv mv lv : Value) (q m : List (List UInt8)) (k : List UInt8) (w0 w : World) (hm : MGBox w b on qv mv) (hq0 : StrRow w0 qv q) (hm0 : StrRow w0 mv m) (hw : Below w0.heap.size w0 w) (hb : w0.heap.size ≤ b) (hl : StrRow w lv [k]) (hql : q.length ≤ 1000) (hml : m.length ≤ 1000) (hup : upS m) :
    Calls Try.prog 38 #[.pointer (some ⟨b, 0, none⟩), lv] w fun e w' => e = .returned (.tuple #[]) ∧ MarkPost b on q m k w0 w w' := by
  have hbw := heap_lt hm
  have hqw := hq0.below hw
  have hmw := hm0.below hw
  have C := bsStr_walk mv m k w hmw (by omega) hup
  have HQ0 := Lib.hid hq0
  have HM0 := Lib.hid hm0
  have HQW := Lib.hid hqw
  have HMW := Lib.hid hmw
  obtain ⟨qa, qc, rfl, _⟩ := hqw
  obtain ⟨ma, mc, rfl, _⟩ := hmw
  obtain ⟨la, lc, rfl, _, _, hlx⟩ := hl
  rcases hlx with hlx | ⟨lb, lo, rfl, hlx⟩
  · cases hlx
  have hk0 := hlx 0 k rfl
  try simp only [Nat.add_zero] at hk0
  clear hlx hq0 hm0
  have hm2 := heap_cell hm (j := 2) (v := .slice ma m.length mc) rfl
  by_cases hin : k ∈ m
  · have hNQ := Lib.hid (show noteQ true q m k = q from if_neg (fun h => h.2.2 hin))
    have hNM := Lib.hid (show noteM true m k = m from if_neg (fun h => h.2.2 hin))
    rw [decide_eq_true hin] at C
    generalize posL m k = p at *
    clear hin hup
    go_enter Try.func38, Try.ntmps38
    go_wp2
    go_loopw [10] (fun i wr => (i = .int .i64 0 ∧ wr = w) ∨ (i = .int .i64 1 ∧ MarkPost b on q m k w0 w wr)) (fun i _ => 1 - (intOf i).toNat)
    case atStart => exact .inl ⟨rfl, rfl⟩
    case round =>
      rcases hrel with ⟨rfl, hwr⟩ | ⟨rfl, hP⟩
      · subst hwr
        go_wp2_with fail
        refine C.mono ?_
        rintro e w1 ⟨rfl, hb1⟩
        clear C
        go_wp2
        go_roundw
        case rel => exact .inr ⟨by go_num, _, _, keptG hb1 hm, by rw [hNQ.out]; exact .inl HQ0.out, by rw [hNM.out]; exact .inl HM0.out, hb1.mono (by omega)⟩
        case measure => simp [intOf]
      · have HP := Lib.hid hP
        clear hP
        go_wp2
        go_end0
        exact ⟨rfl, HP.out⟩
  rw [decide_eq_false hin] at C
  by_cases h32 : k.length = 32
  case neg =>
    have hNQ := Lib.hid (show noteQ true q m k = q from if_neg (fun h => h32 h.2.1))
    have hNM := Lib.hid (show noteM true m k = m from if_neg (fun h => h32 h.2.1))
    have h32' : ((k.length : Int) != 32) = true := by rw [bne_iff_ne]; omega
    generalize posL m k = p at *
    clear hin hup h32
    go_enter Try.func38, Try.ntmps38
    go_wp2
    go_loopw [10] (fun i wr => (i = .int .i64 0 ∧ wr = w) ∨ (i = .int .i64 1 ∧ MarkPost b on q m k w0 w wr)) (fun i _ => 1 - (intOf i).toNat)
    case atStart => exact .inl ⟨rfl, rfl⟩
    case round =>
      rcases hrel with ⟨rfl, hwr⟩ | ⟨rfl, hP⟩
      · subst hwr
        go_wp2_with fail
        refine C.mono ?_
        rintro e w1 ⟨rfl, hb1⟩
        clear C
        go_wp2
        go_roundw
        case rel => exact .inr ⟨by go_num, _, _, keptG hb1 hm, by rw [hNQ.out]; exact .inl HQ0.out, by rw [hNM.out]; exact .inl HM0.out, hb1.mono (by omega)⟩
        case measure => simp [intOf]
      · have HP := Lib.hid hP
        clear hP
        go_wp2
        go_end0
        exact ⟨rfl, HP.out⟩
  have h32' : ((k.length : Int) != 32) = false := by rw [bne_eq_false_iff_eq]; omega
  have hNQ := Lib.hid (show noteQ true q m k = q ++ [k] from if_pos ⟨rfl, h32, hin⟩)
  have hNM := Lib.hid (show noteM true m k = m.take (posL m k) ++ k :: m.drop (posL m k) by
    have h1 : noteM true m k = addL m k := if_pos ⟨rfl, h32, hin⟩
    have h2 := withK_up (key := (id : List UInt8 → List UInt8)) (l := m) (f := k) (by simpa using hup)
    rw [h1]
    unfold addL
    rw [if_neg hin, h2]
    simp [hin])
  have hpl := posL_le m k
  generalize posL m k = p at *
  clear hin hup h32
  obtain ⟨i0, hi, hz0, hz1, hz2⟩ := info_parts infoStr
  go_enter Try.func38, Try.ntmps38
  go_wp2
  go_loopw [10] (fun i wr => (i = .int .i64 0 ∧ wr = w) ∨ (i = .int .i64 1 ∧ MarkPost b on q m k w0 w wr)) (fun i _ => 1 - (intOf i).toNat)
  case atStart => exact .inl ⟨rfl, rfl⟩
  case round =>
    rcases hrel with ⟨rfl, hwr⟩ | ⟨rfl, hP⟩
    case inr =>
      have HP := Lib.hid hP
      clear hP
      go_wp2
      go_end0
      exact ⟨rfl, HP.out⟩
    subst hwr
    go_wp2_with fail
    refine C.mono ?_
    rintro e w1 ⟨rfl, hb1⟩
    have hm1 : MGBox w1 b on _ _ := keptG hb1 hm
    have hz1' := hb1.size
    have hB1 : Below b wr w1 := hb1.mono (by omega)
    have c2 := heap_cell hm1 (j := 2) (v := .slice ma m.length mc) rfl
    have CC := cloStr_walk (b + 1) ma m.length mc (m.map S) w1 (by omega) (by omega) (by simp) (str_flat (HMW.out.below hb1)) (mapS_one m)
    clear C hm2 hk0
    go_wp2_with fail
    refine CC.mono ?_
    rintro e w2 ⟨v2, rfl, hown2, hb2⟩
    have hm2 : MGBox w2 b on _ _ := (hb2.block b (by omega)).trans hm1
    have hz2' := hb2.size
    have hB2 : Below b wr w2 := hB1.trans (hb2.mono (by omega))
    obtain ⟨a2, n2, c2', rfl⟩ := own_slice hown2
    have hlt2 := hown2.lt
    have CI := insStr_walkR (b + 1) (.slice a2 n2 c2') m.length p w2.heap.size (m.map S) [S k] (w2.alloc (.cells #[S k] 9)) (hown2.alloc _) hpl (by rw [World.size_alloc]; omega) (by omega) rfl (heap_alloc_new _ _) (s_one k) (mapS_one m) (fun e => by have := (hlt2 _ e).2; omega)
    clear CC c2
    go_wp2_with fail
    refine CI.mono ?_
    rintro e w3 ⟨v3, rfl, hown3, hb3, _⟩
    obtain ⟨a3, n3, c3, rfl⟩ := own_slice hown3
    have hm3 : MGBox w3 b on _ _ := (hb3.block b (by omega)).trans ((Below.heap_alloc w2 _ b (by omega)).trans hm2)
    have hB3 : Below b wr w3 := (hB2.alloc (by omega) _).trans (hb3.mono (by omega))
    have c2 := heap_cell hm3 (j := 2) (v := .slice ma m.length mc) rfl
    have s2 := is_some c2
    have f2 := heap_free hm3 2
    obtain ⟨w4, hw4, hm4, hB4, hown4⟩ : ∃ w4, w4 = w3.setCell ⟨b, 2, none⟩ (.slice a3 n3 c3) ∧ MGBox w4 b on (.slice qa q.length qc) (.slice a3 n3 c3) ∧ Below b wr w4 ∧ World.ownsRow w4 (b + 1) 9 1 (.slice a3 n3 c3) (m.length + 1) ((m.map S).take p ++ ([S k] ++ (m.map S).drop p)) :=
      ⟨_, rfl, mg_set2 hm3 _, below_setC hB3 (Nat.le_refl _) 2 _, own_set hown3 (by omega)⟩
    have HOW4 := Lib.hid hown4
    clear CI hown3 hown2 hown4 hlt2
    go_upto_region 6 with fail
    rw [← hw4]
    have hz4 : b + 1 ≤ w4.heap.size := by have := heap_lt hm4; omega
    clear hw4 c2 s2 f2 hm3 hm2 hm1 hm hB3 hB2 hB1 hb3 hb2 hb1
    have c1 := heap_cell hm4 (j := 1) (v := .slice qa q.length qc) rfl
    have CQ := cloStr_walk (w4.heap.size) qa q.length qc (q.map S) w4 (Nat.le_refl _) (by omega) (by simp) (str_flat ((HQ0.out).below ((hw.trans (hB4.mono hb))))) (mapS_one q)
    go_wp2_with fail
    refine CQ.mono ?_
    rintro e w5 ⟨v5, rfl, hown5, hb5⟩
    obtain ⟨a5, n5, c5, rfl⟩ := own_slice hown5
    have hm5 : MGBox w5 b on _ _ := (hb5.block b (by omega)).trans hm4
    have hz5 := hb5.size
    have hB5 : Below b wr w5 := hB4.trans (hb5.mono (by omega))
    have hown5m : World.ownsRow w5 (b + 1) 9 1 (.slice a3 n3 c3) (m.length + 1) ((m.map S).take p ++ ([S k] ++ (m.map S).drop p)) := own_keep HOW4.out (fun g _ h2 => hb5.block g h2)
    clear CQ c1 hm4
    go_wp2_with (at_builtin; refine wpList_append_own _ rfl _ _ 22 rfl w4.heap.size 9 i0 (.string ⟨#[]⟩) 1 16 Try.underlying22 hi hz0 hz1 hz2 rfl (by decide) _ _ _ rfl (hown5.alloc _) ⟨w5.heap.size, 0, none⟩ 1 1 [S k] rfl rfl (new_cell_at rfl _ _) (s_one _) (by unfold maxLen; omega) (by omega) (by rw [World.size_alloc]; omega) ?_)
    intro v6 w6 hown6 hgrow6 _
    have hb6 : Below w4.heap.size w4 w6 := (hb5.alloc hz5 (.cells #[S k] 9)).grown hgrow6 (by rw [World.size_alloc]; omega) (fun j hj => (hown5.lt j hj).1)
    obtain ⟨a6, n6, c6, rfl⟩ := own_slice hown6
    have hm6 : MGBox w6 b on (.slice qa q.length qc) (.slice a3 n3 c3) := by
      have h1 : b < w4.heap.size := by omega
      have h2 := (hb6.block b h1)
      have h3 := (hb5.block b h1)
      exact h2.trans (h3.symm.trans hm5)
    have hown6m : World.ownsRow w6 (b + 1) 9 1 (.slice a3 n3 c3) (m.length + 1) ((m.map S).take p ++ ([S k] ++ (m.map S).drop p)) := own_keep HOW4.out (fun g _ h2 => hb6.block g h2)
    have hB6 : Below b wr w6 := hB4.trans (hb6.mono (by omega))
    have c1 := heap_cell hm6 (j := 1) (v := .slice qa q.length qc) rfl
    have s1 := is_some c1
    have f1 := heap_free hm6 1
    have HQ := Lib.hid (own_base (B' := b + 1) (own_set (o := 1) (b := b) (u := .slice a6 n6 c6) hown6 (by omega)) (by omega))
    have HMM := Lib.hid (own_set (o := 1) (b := b) (u := .slice a6 n6 c6) hown6m (by omega))
    have HB := Lib.hid (mg_set1 hm6 (.slice a6 n6 c6))
    have HBL := Lib.hid (below_setC hB6 (Nat.le_refl _) 1 (.slice a6 n6 c6))
    clear hown5 hown6 hgrow6 hown6m hown5m hm5 hB5 hb5 hb6 hm6 hB6
    go_wp2
    go_roundw
    case rel =>
      refine .inr ⟨by go_num, _, _, HB.out, .inr ?_, .inr ?_, HBL.out⟩
      · rw [hNQ.out]
        have h9 := HQ.out
        simpa using h9
      · rw [hNM.out]
        have h9 := HMM.out
        have e1 : (m.take p ++ k :: m.drop p).length = m.length + 1 := by simp; omega
        rw [e1]
        simpa [List.map_take, List.map_drop] using h9
    case measure => simp [intOf]
end Go.Proofs.Ythjoaoakadaieaa
