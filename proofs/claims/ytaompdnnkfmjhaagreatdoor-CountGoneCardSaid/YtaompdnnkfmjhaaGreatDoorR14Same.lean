/- The reference's Same of counts. -/
import Derived.Test.YtaompdnnkfmjhaaGreatDoorJCSpread
namespace Go.Proofs.YtaompdnnkfmjhaaGreatDoor
open Go.RowKit

theorem take_snoc_q {α : Type} {l m : List α} {k : Nat} (h1 : k < l.length) (h2 : k < m.length) (h : l.take k = m.take k) (he : l[k] = m[k]) : l.take (k + 1) = m.take (k + 1) := by
  rw [List.take_succ_eq_append_getElem h1, List.take_succ_eq_append_getElem h2, h, he]
theorem at_ne_q {α : Type} {l m : List α} {k : Nat} (h1 : k < l.length) (h2 : k < m.length) (h : l[k] ≠ m[k]) : l ≠ m := by
  intro e; subst e; exact h rfl
/-- Two items that differ, in the walk's words. -/
theorem cnt_ne {p1 p2 : List UInt8} {n1 n2 : Int} (h : ¬ ((p1, n1) : Cnt) = (p2, n2)) : (p1 == p2) = false ∨ ((p1 == p2) = true ∧ (n1 == n2) = false) := by
  by_cases e : p1 = p2
  · exact .inr ⟨by rw [beq_iff_eq]; exact e, by rw [beq_eq_false_iff_ne]; intro e2; exact h (by rw [e, e2])⟩
  · exact .inl (by rw [beq_eq_false_iff_ne]; exact e)

set_option maxHeartbeats 2000000 in
set_option maxRecDepth 100000 in
theorem r14same_walk (v v2 : Value) (l m : List Cnt) (w : World) (hr : CntRow w v l) (hr2 : CntRow w v2 m) (hcnt : l.length ≤ 1100000) (_hcnt2 : m.length ≤ 1100000) :
    Calls Tryz.prog 20 #[v, v2] w fun e w' => e = .returned (.bool (decide (l = m))) ∧ Below w.heap.size w w' := by
  have HF := Lib.hid (fun (h : l ≠ m) => decide_eq_false h)
  have HG := Lib.hid (fun (h : l = m) => decide_eq_true h)
  generalize decide (l = m) = res at *
  obtain ⟨a, c, rfl, hc, hm, hx⟩ := hr
  obtain ⟨a2, c2, rfl, hc2, hm2, hx2⟩ := hr2
  have HX := Lib.hid hx
  have HX2 := Lib.hid hx2
  clear hx hx2
  by_cases g : l.length = m.length
  · have gg : ((l.length : Int) != (m.length : Int)) = false := by rw [bne_eq_false_iff_eq]; omega
    have HL := Lib.hid g
    have hle1 : l.length ≤ m.length := by omega
    have hle2 : m.length ≤ l.length := by omega
    clear g
    go_enter Tryz.func20, Tryz.ntmps20
    go_wp2
    go_loopw [5] (fun i wr => ∃ k : Nat, k ≤ l.length ∧ i = .int .i64 k ∧ l.take k = m.take k ∧ Below w.heap.size w wr) (fun i _ => l.length - (intOf i).toNat)
    case atStart => exact ⟨0, Nat.zero_le _, rfl, rfl, Below.refl _ _⟩
    case round =>
      obtain ⟨k, hk, rfl, ht, hB⟩ := hrel
      have HT := Lib.hid ht
      have HB := Lib.hid hB
      clear ht
      by_cases h1 : k < l.length
      · have h2 : k < m.length := by omega
        have h1' : (k : Int) < (l.length : Int) := by omega
        have h2' : (k : Int) < (m.length : Int) := by omega
        have hx := HX.out
        rcases hx with hx | ⟨b, o, rfl, hx⟩
        · exfalso; rw [hx] at h1; simp at h1
        have hy := HX2.out
        rcases hy with hy | ⟨b2, o2, rfl, hy⟩
        · exfalso; rw [hy] at h2; simp at h2
        obtain ⟨hx1, hx2⟩ := cnt_cells hx h1
        obtain ⟨hy1, hy2⟩ := cnt_cells hy h2
        have hc1 := cell_below hB hx1
        have hc2 := cell_below hB hx2
        have hd1 := cell_below hB hy1
        have hd2 := cell_below hB hy2
        have HSO := Lib.hid (fun h => take_snoc_q h1 h2 HT.out h)
        have HDO := Lib.hid (fun h => HF.out (at_ne_q h1 h2 h))
        clear hx hy hx1 hx2 hy1 hy2 hB
        generalize l[k] = y at *
        generalize m[k] = z at *
        obtain ⟨p1, n1⟩ := y
        obtain ⟨p2, n2⟩ := z
        simp only at hc1 hc2 hd1 hd2
        by_cases hpq : ((p1, n1) : Cnt) = (p2, n2)
        · have HSS := Lib.hid (HSO.out hpq)
          cases hpq
          go_wp2
          go_quiet (fail)
          go_wp2
          go_roundw
          case rel => exact ⟨k + 1, by omega, by go_num, HSS.out, belowN HB.out _⟩
          case measure => simp [intOf]; omega
        · have HR := Lib.hid (HDO.out hpq)
          have hcase := cnt_ne hpq
          clear hpq
          rcases hcase with q1 | ⟨q1, q2⟩
          all_goals
            go_wp2
            go_quiet (fail)
            go_wp2
            go_ret
            exact ⟨by rw [HR.out]; rfl, belowN HB.out _⟩
      · have h1' : ¬ (k : Int) < (l.length : Int) := by omega
        have HR := Lib.hid (HG.out (by
          have e := HT.out
          rw [List.take_of_length_le (by omega), List.take_of_length_le (by omega)] at e
          exact e))
        go_wp2
        go_ret
        exact ⟨by rw [HR.out]; rfl, HB.out⟩
  · have gg : ((l.length : Int) != (m.length : Int)) = true := by rw [bne_iff_ne]; omega
    have HR := Lib.hid (HF.out (fun e => g (by rw [e])))
    clear g
    go_enter Tryz.func20, Tryz.ntmps20
    go_wp2
    go_ret
    exact ⟨by rw [HR.out]; rfl, Below.refl _ _⟩
end Go.Proofs.YtaompdnnkfmjhaaGreatDoor
