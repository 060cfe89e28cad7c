/- Chapter 10's statements: few, same. -/
import Derived.Test.YtnegnjagiejncaaDoorPT10
namespace Go.Proofs.YtnegnjagiejncaaDoor
open Go.RowKit

def fewI (x : Itm) : Bool := decide (x.1.length ≤ 400) && decide (x.2.2.2.length ≤ 40000)
def fewT (l : List Itm) : Bool := decide (l.length ≤ 70) && l.all fewI
theorem fewT_parts {l : List Itm} (h : fewT l = true) : l.length ≤ 70 ∧ ∀ x ∈ l, x.1.length ≤ 400 ∧ x.2.2.2.length ≤ 40000 := by
  simp only [fewT, fewI, Bool.and_eq_true, decide_eq_true_eq, List.all_eq_true] at h
  exact h

set_option maxHeartbeats 2000000 in
set_option maxRecDepth 100000 in
theorem few10_walk (v : Value) (l : List Itm) (w : World) (hr : ItRow w v l) :
    Calls Tryd.prog 16 #[v] w fun e w' => e = .returned (.bool (fewT l)) ∧ Below w.heap.size w w' := by
  obtain ⟨a, c, rfl, hc, hm, hx⟩ := hr
  have HX := Lib.hid hx
  unfold maxLen at hm
  clear hx
  by_cases h25 : 70 < l.length
  · have h25' : (70 : Int) < (l.length : Int) := by omega
    have HF := Lib.hid (show fewT l = false by simp [fewT]; omega)
    go_enter Tryd.func16, Tryd.ntmps16
    go_wp2
    go_ret
    exact ⟨by rw [HF.out]; rfl, Below.refl _ _⟩
  have h25' : ¬ (70 : Int) < (l.length : Int) := by omega
  go_enter Tryd.func16, Tryd.ntmps16
  go_wp2
  go_loopw [10] (fun i wr => ∃ k : Nat, k ≤ l.length ∧ i = .int .i64 k ∧ (l.take k).all fewI = true ∧ Below w.heap.size w wr) (fun i _ => l.length - (intOf i).toNat)
  case atStart => exact ⟨0, Nat.zero_le _, rfl, by simp, Below.refl _ _⟩
  case round =>
    obtain ⟨k, hk, rfl, hall, hB⟩ := hrel
    have HALL := Lib.hid hall
    have HB := Lib.hid hB
    clear hall
    by_cases h1 : k < l.length
    · have h1' : (k : Int) < (l.length : Int) := by omega
      have hx := HX.out
      rcases hx with hx | ⟨b, o, rfl, hx⟩
      · exfalso; rw [hx] at h1; simp at h1
      obtain ⟨hx1, hx2, hx3, hx4⟩ := it_cells hx h1
      have hc1 := cell_below hB hx1
      have hc2 := cell_below hB hx2
      have hc3 := cell_below hB hx3
      have hc4 := cell_below hB hx4
      have HST := Lib.hid (fun (h : fewI l[k] = true) => (show (l.take (k + 1)).all fewI = true by
        rw [List.take_succ_eq_append_getElem h1, List.all_append, HALL.out]; simp [h]))
      have HBAD := Lib.hid (fun (h : fewI l[k] = false) => (show fewT l = false by
        have : l.all fewI = false := by rw [List.all_eq_false]; exact ⟨l[k], by simp, by simp [h]⟩
        simp [fewT, this]))
      clear hx hx1 hx2 hx3 hx4
      have hBa : Below w.heap.size w (wr.alloc (.cells #[S l[k].1, .bool l[k].2.1, .bool l[k].2.2.1, S l[k].2.2.2] 32)) := hB.alloc hB.size _
      generalize l[k] = y at *
      obtain ⟨p, dd, ex, q⟩ := y
      simp only at hc1 hc2 hc3 hc4
      have r0 := cell_new wr #[S p, .bool dd, .bool ex, S q] 32 0 rfl
      have r3 := cell_new wr #[S p, .bool dd, .bool ex, S q] 32 3 rfl
      have HBA := Lib.hid hBa
      clear hB hBa
      by_cases hp : p.length ≤ 400
      · have hp' : ¬ (400 : Int) < (p.length : Int) := by omega
        by_cases hq : q.length ≤ 40000
        · have hq' : ¬ (40000 : Int) < (q.length : Int) := by omega
          have HF := Lib.hid (HST.out (by simp [fewI, hp, hq]))
          clear HST HBAD hp hq
          go_wp2
          go_roundw
          case rel => exact ⟨k + 1, by omega, by go_num, HF.out, HBA.out⟩
          case measure => simp [intOf]; omega
        · have hq' : (40000 : Int) < (q.length : Int) := by omega
          have HF := Lib.hid (HBAD.out (by simp [fewI, hq]))
          clear HST HBAD hp hq
          go_wp2
          go_ret
          exact ⟨by rw [HF.out]; rfl, HBA.out⟩
      · have hp' : (400 : Int) < (p.length : Int) := by omega
        have HF := Lib.hid (HBAD.out (by simp [fewI, hp]))
        clear HST HBAD hp
        go_wp2
        go_ret
        exact ⟨by rw [HF.out]; rfl, HBA.out⟩
    · have h1' : ¬ (k : Int) < (l.length : Int) := by omega
      have HF := Lib.hid (show fewT l = true by
        have := HALL.out
        rw [List.take_of_length_le (by omega)] at this
        simp only [fewT, this]; simp; omega)
      go_wp2
      go_ret
      exact ⟨by rw [HF.out]; rfl, HB.out⟩

theorem ne_at {xs ys : List (List UInt8)} (hl : xs.length = ys.length) {k : Nat} (h1 : k < xs.length) (h2 : k < ys.length) (h : xs[k] ≠ ys[k]) : (xs == ys) = false := by
  rw [beq_eq_false_iff_ne]
  rintro rfl
  exact h rfl
theorem eq_take {xs ys : List (List UInt8)} (hl : xs.length = ys.length) (h : xs.take xs.length = ys.take xs.length) : (xs == ys) = true := by
  rw [beq_iff_eq]
  rw [List.take_of_length_le (Nat.le_refl _), List.take_of_length_le (by omega)] at h
  exact h

set_option maxHeartbeats 1000000 in
set_option maxRecDepth 100000 in
theorem same10_walk (v v2 : Value) (xs ys : List (List UInt8)) (w : World) (hx : StrRow w v xs) (hy : StrRow w v2 ys) (hcl : xs.length ≤ 1000001) (hcm : ys.length ≤ 1000001) :
    Calls Tryd.prog 27 #[v, v2] w fun e w' => e = .returned (.bool (xs == ys)) ∧ Below w.heap.size w w' := by
  obtain ⟨a, c, rfl, hc, hm1, hx⟩ := hx
  obtain ⟨a2, c2, rfl, hc2, hm2, hy⟩ := hy
  have HX := Lib.hid hx
  have HY := Lib.hid hy
  clear hx hy
  by_cases hl : xs.length = ys.length
  · have HL := Lib.hid hl
    have hne : ((xs.length : Int) != (ys.length : Int)) = false := by rw [bne_eq_false_iff_eq]; omega
    have hle1 : xs.length ≤ ys.length := by omega
    have hle2 : ys.length ≤ xs.length := by omega
    clear hl
    go_enter Tryd.func27, Tryd.ntmps27
    go_wp2
    go_loopw [5, 13] (fun _ i wr => ∃ k : Nat, k ≤ xs.length ∧ i = .int .i64 k ∧ xs.take k = ys.take k ∧ Below w.heap.size w wr) (fun _ i _ => xs.length - (intOf i).toNat)
    case atStart => exact ⟨0, Nat.zero_le _, rfl, rfl, Below.refl _ _⟩
    case round =>
      obtain ⟨k, hk, rfl, ht, hB⟩ := hrel
      have HT := Lib.hid ht
      have HB := Lib.hid hB
      clear ht
      by_cases h1 : k < xs.length
      · have h2 : k < ys.length := by omega
        have hx := HX.out
        rcases hx with hx | ⟨b, o, rfl, hx⟩
        · exfalso; rw [hx] at h1; simp at h1
        have hcx := cell_below hB (hx k xs[k] (by simp [h1]))
        have hy := HY.out
        rcases hy with hy | ⟨b2, o2, rfl, hy⟩
        · exfalso; rw [hy] at h2; simp at h2
        have hcy := cell_below hB (hy k ys[k] (by simp [h2]))
        have HNE := Lib.hid (fun h => ne_at HL.out h1 h2 h)
        have HST := Lib.hid (fun h : xs[k] = ys[k] => (show xs.take (k + 1) = ys.take (k + 1) by rw [List.take_succ_eq_append_getElem h1, List.take_succ_eq_append_getElem h2, HT.out, h]))
        clear hx hy hB
        generalize xs[k] = p at *
        generalize ys[k] = q at *
        have h1' : (k : Int) < (xs.length : Int) := by omega
        have h2' : (k : Int) < (ys.length : Int) := by omega
        by_cases hpq : p = q
        · subst hpq
          have HS := Lib.hid (HST.out rfl)
          have hpp : (p == p) = true := by simp
          go_wp2
          go_quiet (fail)
          go_wp2
          go_roundw
          case rel => exact ⟨k + 1, by omega, by go_num, HS.out, belowN HB.out _⟩
          case measure => simp [intOf]; omega
        · have HS := Lib.hid (HNE.out hpq)
          have hpp : (p == q) = false := by rw [beq_eq_false_iff_ne]; exact hpq
          clear hpq
          go_wp2
          go_quiet (fail)
          go_wp2
          go_ret
          exact ⟨ret_bool HS.out.symm, belowN HB.out _⟩
      · have h1' : ¬ (k : Int) < (xs.length : Int) := by omega
        have HK := Lib.hid (show k = xs.length by omega)
        go_wp2
        go_ret
        exact ⟨ret_bool (eq_take HL.out (by rw [← HK.out]; exact HT.out)).symm, HB.out⟩
  · have hne : ((xs.length : Int) != (ys.length : Int)) = true := by rw [bne_iff_ne]; omega
    have HE := Lib.hid (show (xs == ys) = false by rw [beq_eq_false_iff_ne]; rintro rfl; exact hl rfl)
    clear hl
    go_enter Tryd.func27, Tryd.ntmps27
    go_wp2
    go_ret
    exact ⟨ret_bool HE.out.symm, Below.refl _ _⟩

end Go.Proofs.YtnegnjagiejncaaDoor
