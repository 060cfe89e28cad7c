/- The reference's answers on trees: under, Same. -/
import Derived.Test.YtkejdbidomlonaaGreatDoorJTreePlain2
namespace Go.Proofs.YtkejdbidomlonaaGreatDoor
open Go.RowKit


set_option maxHeartbeats 2000000 in
set_option maxRecDepth 100000 in
theorem r10same_walk (v v2 : Value) (l m : List Itm) (w : World) (hr : ItRow w v l) (hr2 : ItRow w v2 m) (hcnt : l.length ≤ 1100000) (_hcnt2 : m.length ≤ 1100000) :
    Calls Tryz.prog 13 #[v, v2] w fun e w' => e = .returned (.bool (decide (l = m))) ∧ Below w.heap.size w w' := by
  have HF := Lib.hid (fun (h : l ≠ m) => decide_eq_false h)
  have HG := Lib.hid (fun (h : l = m) => decide_eq_true h)
  generalize decide (l = m) = res at *
  obtain ⟨a, c, rfl, hc, hm, hx⟩ := hr
  obtain ⟨a2, c2, rfl, hc2, hm2, hx2⟩ := hr2
  have HX := Lib.hid hx
  have HX2 := Lib.hid hx2
  clear hx hx2
  by_cases g : l.length = m.length
  · have gg : ((l.length : Int) != (m.length : Int)) = false := by rw [bne_eq_false_iff_eq]; omega
    have HL := Lib.hid g
    have hle1 : l.length ≤ m.length := by omega
    have hle2 : m.length ≤ l.length := by omega
    clear g
    go_enter Tryz.func13, Tryz.ntmps13
    go_wp2
    go_loopw [5] (fun i wr => ∃ k : Nat, k ≤ l.length ∧ i = .int .i64 k ∧ l.take k = m.take k ∧ Below w.heap.size w wr) (fun i _ => l.length - (intOf i).toNat)
    case atStart => exact ⟨0, Nat.zero_le _, rfl, rfl, Below.refl _ _⟩
    case round =>
      obtain ⟨k, hk, rfl, ht, hB⟩ := hrel
      have HT := Lib.hid ht
      have HB := Lib.hid hB
      clear ht
      by_cases h1 : k < l.length
      · have h2 : k < m.length := by omega
        have h1' : (k : Int) < (l.length : Int) := by omega
        have h2' : (k : Int) < (m.length : Int) := by omega
        have hx := HX.out
        rcases hx with hx | ⟨b, o, rfl, hx⟩
        · exfalso; rw [hx] at h1; simp at h1
        have hy := HX2.out
        rcases hy with hy | ⟨b2, o2, rfl, hy⟩
        · exfalso; rw [hy] at h2; simp at h2
        obtain ⟨hx1, hx2, hx3, hx4⟩ := it_cells hx h1
        obtain ⟨hy1, hy2, hy3, hy4⟩ := it_cells hy h2
        have hc1 := cell_below hB hx1
        have hc2 := cell_below hB hx2
        have hc3 := cell_below hB hx3
        have hc4 := cell_below hB hx4
        have hd1 := cell_below hB hy1
        have hd2 := cell_below hB hy2
        have hd3 := cell_below hB hy3
        have hd4 := cell_below hB hy4
        have HSO := Lib.hid (fun h => take_snoc_eq h1 h2 HT.out h)
        have HDO := Lib.hid (fun h => HF.out (at_ne h1 h2 h))
        clear hx hy hx1 hx2 hx3 hx4 hy1 hy2 hy3 hy4 hB
        generalize l[k] = y at *
        generalize m[k] = z at *
        obtain ⟨p1, d1, e1, t1⟩ := y
        obtain ⟨p2, d2, e2, t2⟩ := z
        simp only at hc1 hc2 hc3 hc4 hd1 hd2 hd3 hd4
        by_cases hpq : ((p1, d1, e1, t1) : Itm) = (p2, d2, e2, t2)
        · have HSS := Lib.hid (HSO.out hpq)
          cases hpq
          go_wp2
          go_quiet (fail)
          go_wp2
          go_roundw
          case rel => exact ⟨k + 1, by omega, by go_num, HSS.out, belowN HB.out _⟩
          case measure => simp [intOf]; omega
        · have HR := Lib.hid (HDO.out hpq)
          have hcase := itm_ne hpq
          clear hpq
          rcases hcase with q1 | ⟨q1, q2⟩ | ⟨q1, q2, q3⟩ | ⟨q1, q2, q3, q4⟩
          all_goals
            go_wp2
            go_quiet (fail)
            go_wp2
            go_ret
            exact ⟨by rw [HR.out]; rfl, belowN HB.out _⟩
      · have h1' : ¬ (k : Int) < (l.length : Int) := by omega
        have HR := Lib.hid (HG.out (by
          have e := HT.out
          rw [List.take_of_length_le (by omega), List.take_of_length_le (by omega)] at e
          exact e))
        go_wp2
        go_ret
        exact ⟨by rw [HR.out]; rfl, HB.out⟩
  · have gg : ((l.length : Int) != (m.length : Int)) = true := by rw [bne_iff_ne]; omega
    have HR := Lib.hid (HF.out (fun e => g (by rw [e])))
    clear g
    go_enter Tryz.func13, Tryz.ntmps13
    go_wp2
    go_ret
    exact ⟨by rw [HR.out]; rfl, Below.refl _ _⟩
end Go.Proofs.YtkejdbidomlonaaGreatDoor
