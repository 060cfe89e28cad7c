/- Chapter 15: few. -/
import Derived.Test.YthjoaoakadaieaaRFit15b
namespace Go.Proofs.Ythjoaoakadaieaa
open Go.RowKit

def FewO (o : Opn) : Prop := o.2.length ≤ 5000 ∧ (o.1 ≤ 20000 ∨ 262144 < o.1)
def FewF (x : DF) : Prop := x.name.length ≤ 100 ∧ x.data.length ≤ 20000 ∧ x.ops.length ≤ 210 ∧ ∀ o ∈ x.ops, FewO o
def FewP (l : List DF) : Prop := l.length ≤ 12 ∧ ∀ x ∈ l, FewF x
theorem all_step {α : Type} {P : α → Prop} {l : List α} {k : Nat} (h1 : k < l.length) (h : ∀ x ∈ l.take k, P x) (hx : P l[k]) : ∀ x ∈ l.take (k + 1), P x := by
  intro x hm
  rw [List.take_succ_eq_append_getElem h1] at hm
  rcases List.mem_append.1 hm with h2 | h2
  · exact h x h2
  · simp at h2; subst h2; exact hx

def FewPost (l : List DF) (w : World) (e : Ending) (w' : World) : Prop := ∃ b : Bool, e = .returned (.bool b) ∧ (b = true → FewP l) ∧ Below w.heap.size w w'
set_option maxHeartbeats 4000000 in
set_option maxRecDepth 100000 in
theorem few_walk (v : Value) (off : Bool) (fuse : Int) (l : List DF) (w : World) (hr : FilesR w v l) :
    Calls Try.prog 17 #[DiskV v off fuse] w (FewPost l w) := by
  obtain ⟨⟨a, c, rfl, hc, hcm, hx⟩, ho⟩ := hr
  have HX := Lib.hid hx
  have HO := Lib.hid ho
  clear hx ho
  have hb0 : Below w.heap.size w (w.alloc (.cells #[.slice a l.length c, .bool off, .int .i64 fuse] 35)) := (Below.refl _ w).alloc (Nat.le_refl _) _
  by_cases g0 : 12 < l.length
  · have g0' : (12 : Int) < (l.length : Int) := by omega
    go_enter Try.func17, Try.ntmps17
    go_wp2
    go_ret
    exact ⟨false, rfl, by simp, hb0⟩
  have g0' : ¬ (12 : Int) < (l.length : Int) := by omega
  go_enter Try.func17, Try.ntmps17
  go_wp2
  go_loopw [14] (fun i wr => ∃ k : Nat, k ≤ l.length ∧ i = .int .i64 k ∧ (∀ x ∈ l.take k, FewF x) ∧ Below w.heap.size w wr) (fun i _ => l.length - (intOf i).toNat)
  case atStart => exact ⟨0, Nat.zero_le _, rfl, by simp, hb0⟩
  case round =>
    obtain ⟨k, hk, rfl, ha, hB⟩ := hrel
    have HA := Lib.hid ha
    have HB := Lib.hid hB
    clear ha
    by_cases h1 : k < l.length
    · have h1' : (k : Int) < (l.length : Int) := by omega
      have hx := HX.out
      rcases hx with hx | ⟨b, o, rfl, hx⟩
      · exfalso; rw [hx] at h1; simp at h1
      obtain ⟨hx1, hx2, hx3⟩ := df_cells hx h1
      have hc1 := cell_below hB hx1
      have hc2 := cell_below hB hx2
      have hc3 := cell_below hB hx3
      have HR := Lib.hid ((HO.out l[k] (by simp)).below hB)
      have HS := Lib.hid (fun h => all_step (P := FewF) h1 HA.out h)
      clear hx hx1 hx2 hx3
      generalize l[k] = y at *
      obtain ⟨nm, dt, ov, os⟩ := y
      simp only at hc1 hc2 hc3 HR
      have hcase : 100 < nm.length ∨ (¬ 100 < nm.length ∧ 20000 < dt.length) ∨ (¬ 100 < nm.length ∧ ¬ 20000 < dt.length ∧ 210 < os.length) ∨ (¬ 100 < nm.length ∧ ¬ 20000 < dt.length ∧ ¬ 210 < os.length) := by omega
      obtain ⟨ao, co, rfl, hcO, hcmO, hxO⟩ := HR.out
      have HXO := Lib.hid hxO
      clear hxO
      have hB1 := Lib.hid (HB.out.alloc HB.out.size (.cells #[S nm, S dt, .slice ao os.length co] 50))
      rcases hcase with g1 | ⟨g1, g2⟩ | ⟨g1, g2, g3⟩ | ⟨g1, g2, g3⟩
      · have g1' : (100 : Int) < (nm.length : Int) := by omega
        go_wp2
        go_ret
        exact ⟨false, rfl, by simp, hB1.out⟩
      · have g1' : ¬ (100 : Int) < (nm.length : Int) := by omega
        have g2' : (20000 : Int) < (dt.length : Int) := by omega
        go_wp2
        go_ret
        exact ⟨false, rfl, by simp, hB1.out⟩
      · have g1' : ¬ (100 : Int) < (nm.length : Int) := by omega
        have g2' : ¬ (20000 : Int) < (dt.length : Int) := by omega
        have g3' : (210 : Int) < (os.length : Int) := by omega
        go_wp2
        go_ret
        exact ⟨false, rfl, by simp, hB1.out⟩
      · have g1' : ¬ (100 : Int) < (nm.length : Int) := by omega
        have g2' : ¬ (20000 : Int) < (dt.length : Int) := by omega
        have g3' : ¬ (210 : Int) < (os.length : Int) := by omega
        go_wp2
        go_loopw [37] (fun i wq => ∃ j : Nat, j ≤ os.length ∧ i = .int .i64 j ∧ (∀ x ∈ os.take j, FewO x) ∧ Below w.heap.size w wq ∧ Below wr.heap.size wr wq) (fun i _ => os.length - (intOf i).toNat)
        case atStart => exact ⟨0, Nat.zero_le _, rfl, by simp, hB1.out, (Below.refl _ wr).alloc (Nat.le_refl _) _⟩
        case round =>
          obtain ⟨j, hj, rfl, haO, hBO, hBr⟩ := hrel
          have HAO := Lib.hid haO
          have HBO := Lib.hid hBO
          have HBR := Lib.hid hBr
          clear haO hBO
          by_cases h2 : j < os.length
          · have h2' : (j : Int) < (os.length : Int) := by omega
            have hxO := HXO.out
            rcases hxO with hxO | ⟨b2, o2, rfl, hxO⟩
            · exfalso; rw [hxO] at h2; simp at h2
            obtain ⟨hx1, hx2⟩ := op_cells hxO h2
            have hd1 := cell_below hBr hx1
            have hd2 := cell_below hBr hx2
            have HSO := Lib.hid (fun h => all_step (P := FewO) h2 HAO.out h)
            clear hxO hx1 hx2 hBr
            generalize os[j] = y at *
            obtain ⟨at0, s0⟩ := y
            simp only at hd1 hd2
            have hB2 := Lib.hid (HBO.out.alloc HBO.out.size (.cells #[.int .i64 at0, S s0] 69))
            have hB3 := Lib.hid (HBR.out.alloc HBR.out.size (.cells #[.int .i64 at0, S s0] 69))
            have hcase : 5000 < s0.length ∨ (¬ 5000 < s0.length ∧ 20000 < at0 ∧ at0 ≤ 262144) ∨ (¬ 5000 < s0.length ∧ 20000 < at0 ∧ ¬ at0 ≤ 262144) ∨ (¬ 5000 < s0.length ∧ ¬ 20000 < at0) := by omega
            rcases hcase with e1 | ⟨e1, e2, e3⟩ | ⟨e1, e2, e3⟩ | ⟨e1, e2⟩
            · have e1' : (5000 : Int) < (s0.length : Int) := by omega
              go_wp2
              go_ret
              exact ⟨false, rfl, by simp, hB2.out⟩
            · have e1' : ¬ (5000 : Int) < (s0.length : Int) := by omega
              go_wp2
              go_ret
              exact ⟨false, rfl, by simp, hB2.out⟩
            · have e1' : ¬ (5000 : Int) < (s0.length : Int) := by omega
              have HSS := Lib.hid (HSO.out ⟨by show s0.length ≤ 5000; omega, .inr (by show 262144 < at0; omega)⟩)
              go_wp2
              go_roundw
              case rel => exact ⟨j + 1, by omega, by go_num, HSS.out, hB2.out, hB3.out⟩
              case measure => simp [intOf]; omega
            · have e1' : ¬ (5000 : Int) < (s0.length : Int) := by omega
              have HSS := Lib.hid (HSO.out ⟨by show s0.length ≤ 5000; omega, .inl (by show at0 ≤ 20000; omega)⟩)
              go_wp2
              go_roundw
              case rel => exact ⟨j + 1, by omega, by go_num, HSS.out, hB2.out, hB3.out⟩
              case measure => simp [intOf]; omega
          · have h2' : ¬ (j : Int) < (os.length : Int) := by omega
            have HSS := Lib.hid (HS.out ⟨by simp only; omega, by simp only; omega, by simp only; omega, by
              have := HAO.out; rw [List.take_of_length_le (by omega)] at this; exact this⟩)
            go_wp2
            go_roundw
            case rel => exact ⟨k + 1, by omega, by go_num, HSS.out, HBO.out⟩
            case measure => simp [intOf]; omega
    · have h1' : ¬ (k : Int) < (l.length : Int) := by omega
      have HF := Lib.hid (show FewP l from ⟨by omega, by
        have := HA.out; rw [List.take_of_length_le (by omega)] at this; exact this⟩)
      go_wp2
      go_ret
      exact ⟨true, rfl, fun _ => HF.out, HB.out⟩
end Go.Proofs.Ythjoaoakadaieaa
