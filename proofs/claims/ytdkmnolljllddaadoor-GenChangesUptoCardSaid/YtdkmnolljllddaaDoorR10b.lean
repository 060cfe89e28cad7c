/- The reference's answers on trees: under, Same. -/
import Derived.Test.YtdkmnolljllddaaDoorR10
import Derived.Test.YtdkmnolljllddaaDoorROrder
namespace Go.Proofs.YtdkmnolljllddaaDoor
open Go.RowKit

set_option maxHeartbeats 1100000 in
set_option maxRecDepth 100000 in
theorem r10under_walk (v : Value) (l : List Itm) (p : List UInt8) (w : World) (hr : ItRow w v l) (hcnt : l.length ≤ 1100000) (hp : p.length ≤ 1100000) :
    Calls Tryd.prog 32 #[v, S p] w fun e w' => e = .returned (.bool (underT l p)) ∧ Below w.heap.size w w' := by
  have C := rdir_walk p w hp
  have HU := Lib.hid (show underT l p = (dirL p == [] || (match findT l (dirL p) with | some y => y.2.1 | none => false)) from rfl)
  have CF := fun w h => r10find_walk v l (dirL p) w h hcnt
  unfold findV at CF
  generalize underT l p = res at *
  generalize dirL p = d at *
  generalize findT l d = fo at *
  by_cases hd : d = []
  · subst hd
    have HR := Lib.hid (show res = true by rw [HU.out]; rfl)
    clear HU CF
    go_enter Tryd.func32, Tryd.ntmps32
    go_wp2_with (go_at_call 16; refine (C).mono ?_; rintro e w1 ⟨rfl, hb1⟩)
    go_ret
    exact ⟨by rw [HR.out]; rfl, hb1⟩
  · have hde : (d == []) = false := by rw [beq_eq_false_iff_ne]; exact hd
    clear hd
    cases fo with
    | none =>
      have HR := Lib.hid (show res = false by rw [HU.out, hde]; rfl)
      clear HU
      go_enter Tryd.func32, Tryd.ntmps32
      go_wp2_with (first | (go_at_call 16; refine (C).mono ?_; rintro e w1 ⟨rfl, hb1⟩) | (go_at_call 46; refine (CF _ (hr.below hb1)).mono ?_; rintro e w2 ⟨rfl, hb2⟩))
      go_ret
      exact ⟨by rw [HR.out]; rfl, (below_chain hb1 hb2 hb1.size).alloc (Nat.le_trans hb1.size hb2.size) _⟩
    | some y =>
      obtain ⟨yp, yd, ye, yt⟩ := y
      simp only [Option.getD_some, Option.isSome_some] at CF
      have HR := Lib.hid (show res = yd by rw [HU.out, hde]; rfl)
      clear HU
      go_enter Tryd.func32, Tryd.ntmps32
      go_wp2_with (first | (go_at_call 16; refine (C).mono ?_; rintro e w1 ⟨rfl, hb1⟩) | (go_at_call 46; refine (CF _ (hr.below hb1)).mono ?_; rintro e w2 ⟨rfl, hb2⟩))
      go_ret
      exact ⟨by rw [HR.out]; rfl, (below_chain hb1 hb2 hb1.size).alloc (Nat.le_trans hb1.size hb2.size) _⟩

theorem take_snoc_eq {α : Type} {l m : List α} {k : Nat} (h1 : k < l.length) (h2 : k < m.length) (h : l.take k = m.take k) (he : l[k] = m[k]) : l.take (k + 1) = m.take (k + 1) := by
  rw [List.take_succ_eq_append_getElem h1, List.take_succ_eq_append_getElem h2, h, he]
theorem at_ne {α : Type} {l m : List α} {k : Nat} (h1 : k < l.length) (h2 : k < m.length) (h : l[k] ≠ m[k]) : l ≠ m := by
  intro e; subst e; exact h rfl
/-- Two items that differ, in the walk's words. -/
theorem itm_ne {p1 p2 t1 t2 : List UInt8} {d1 d2 e1 e2 : Bool} (h : ((p1, d1, e1, t1) : Itm) ≠ (p2, d2, e2, t2)) :
    ((p1 == p2) = false) ∨ ((p1 == p2) = true ∧ (d1 == d2) = false) ∨ ((p1 == p2) = true ∧ (d1 == d2) = true ∧ (e1 == e2) = false) ∨ ((p1 == p2) = true ∧ (d1 == d2) = true ∧ (e1 == e2) = true ∧ (t1 == t2) = false) := by
  by_cases h1 : p1 = p2
  · by_cases h2 : d1 = d2
    · by_cases h3 : e1 = e2
      · by_cases h4 : t1 = t2
        · exact absurd (by rw [h1, h2, h3, h4]) h
        · exact .inr (.inr (.inr ⟨by simpa using h1, by simpa using h2, by simpa using h3, by simpa using h4⟩))
      · exact .inr (.inr (.inl ⟨by simpa using h1, by simpa using h2, by simpa using h3⟩))
    · exact .inr (.inl ⟨by simpa using h1, by simpa using h2⟩)
  · exact .inl (by simpa using h1)

set_option maxHeartbeats 2000000 in
set_option maxRecDepth 100000 in
theorem r10same_walk (v v2 : Value) (l m : List Itm) (w : World) (hr : ItRow w v l) (hr2 : ItRow w v2 m) (hcnt : l.length ≤ 1100000) (hcnt2 : m.length ≤ 1100000) :
    Calls Tryd.prog 14 #[v, v2] w fun e w' => e = .returned (.bool (decide (l = m))) ∧ Below w.heap.size w w' := by
  have HF := Lib.hid (fun (h : l ≠ m) => decide_eq_false h)
  have HG := Lib.hid (fun (h : l = m) => decide_eq_true h)
  generalize decide (l = m) = res at *
  obtain ⟨a, c, rfl, hc, hm, hx⟩ := hr
  obtain ⟨a2, c2, rfl, hc2, hm2, hx2⟩ := hr2
  have HX := Lib.hid hx
  have HX2 := Lib.hid hx2
  clear hx hx2
  by_cases g : l.length = m.length
  · have gg : ((l.length : Int) != (m.length : Int)) = false := by rw [bne_eq_false_iff_eq]; omega
    have HL := Lib.hid g
    have hle1 : l.length ≤ m.length := by omega
    have hle2 : m.length ≤ l.length := by omega
    clear g
    go_enter Tryd.func14, Tryd.ntmps14
    go_wp2
    go_loopw [5] (fun i wr => ∃ k : Nat, k ≤ l.length ∧ i = .int .i64 k ∧ l.take k = m.take k ∧ Below w.heap.size w wr) (fun i _ => l.length - (intOf i).toNat)
    case atStart => exact ⟨0, Nat.zero_le _, rfl, rfl, Below.refl _ _⟩
    case round =>
      obtain ⟨k, hk, rfl, ht, hB⟩ := hrel
      have HT := Lib.hid ht
      have HB := Lib.hid hB
      clear ht
      by_cases h1 : k < l.length
      · have h2 : k < m.length := by omega
        have h1' : (k : Int) < (l.length : Int) := by omega
        have h2' : (k : Int) < (m.length : Int) := by omega
        have hx := HX.out
        rcases hx with hx | ⟨b, o, rfl, hx⟩
        · exfalso; rw [hx] at h1; simp at h1
        have hy := HX2.out
        rcases hy with hy | ⟨b2, o2, rfl, hy⟩
        · exfalso; rw [hy] at h2; simp at h2
        obtain ⟨hx1, hx2, hx3, hx4⟩ := it_cells hx h1
        obtain ⟨hy1, hy2, hy3, hy4⟩ := it_cells hy h2
        have hc1 := cell_below hB hx1
        have hc2 := cell_below hB hx2
        have hc3 := cell_below hB hx3
        have hc4 := cell_below hB hx4
        have hd1 := cell_below hB hy1
        have hd2 := cell_below hB hy2
        have hd3 := cell_below hB hy3
        have hd4 := cell_below hB hy4
        have HSO := Lib.hid (fun h => take_snoc_eq h1 h2 HT.out h)
        have HDO := Lib.hid (fun h => HF.out (at_ne h1 h2 h))
        clear hx hy hx1 hx2 hx3 hx4 hy1 hy2 hy3 hy4 hB
        generalize l[k] = y at *
        generalize m[k] = z at *
        obtain ⟨p1, d1, e1, t1⟩ := y
        obtain ⟨p2, d2, e2, t2⟩ := z
        simp only at hc1 hc2 hc3 hc4 hd1 hd2 hd3 hd4
        by_cases hpq : ((p1, d1, e1, t1) : Itm) = (p2, d2, e2, t2)
        · have HSS := Lib.hid (HSO.out hpq)
          cases hpq
          go_wp2
          go_quiet (fail)
          go_wp2
          go_roundw
          case rel => exact ⟨k + 1, by omega, by go_num, HSS.out, belowN HB.out _⟩
          case measure => simp [intOf]; omega
        · have HR := Lib.hid (HDO.out hpq)
          have hcase := itm_ne hpq
          clear hpq
          rcases hcase with q1 | ⟨q1, q2⟩ | ⟨q1, q2, q3⟩ | ⟨q1, q2, q3, q4⟩
          all_goals
            go_wp2
            go_quiet (fail)
            go_wp2
            go_ret
            exact ⟨by rw [HR.out]; rfl, belowN HB.out _⟩
      · have h1' : ¬ (k : Int) < (l.length : Int) := by omega
        have HR := Lib.hid (HG.out (by
          have e := HT.out
          rw [List.take_of_length_le (by omega), List.take_of_length_le (by omega)] at e
          exact e))
        go_wp2
        go_ret
        exact ⟨by rw [HR.out]; rfl, HB.out⟩
  · have gg : ((l.length : Int) != (m.length : Int)) = true := by rw [bne_iff_ne]; omega
    have HR := Lib.hid (HF.out (fun e => g (by rw [e])))
    clear g
    go_enter Tryd.func14, Tryd.ntmps14
    go_wp2
    go_ret
    exact ⟨by rw [HR.out]; rfl, Below.refl _ _⟩
end Go.Proofs.YtdkmnolljllddaaDoor
