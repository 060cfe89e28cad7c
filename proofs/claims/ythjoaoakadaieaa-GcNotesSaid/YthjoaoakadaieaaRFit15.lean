/- The reference's Fit of disks. -/
import Derived.Test.YthjoaoakadaieaaRLay
import Derived.Test.YthjoaoakadaieaaRName
namespace Go.Proofs.Ythjoaoakadaieaa
open Go.RowKit

theorem any_take_bad {l : List Opn} {k : Nat} (h : k < l.length) (hb : badO l[k] = true) : l.any badO = true := by
  rw [List.any_eq_true]; exact ⟨_, List.getElem_mem h, hb⟩
theorem any_none {α : Type} {p : α → Bool} {l : List α} (h : ∀ x ∈ l, p x = false) : l.any p = false := by
  rw [List.any_eq_false]; intro x hx; simp [h x hx]

set_option maxHeartbeats 4000000 in
set_option maxRecDepth 100000 in
theorem rfitfile_walk (x : DF) (w : World) (hr : OpRow w x.ov x.ops) (hn : x.name.length ≤ 1000000) (hd : x.data.length ≤ 1000000) (ho : x.ops.length ≤ 1000000) (hol : ∀ o ∈ x.ops, o.2.length ≤ 1000000) :
    Calls Try.prog 40 #[DFV x] w fun e w' => e = .returned (.bool (!badF x.lo)) ∧ Below w.heap.size w w' := by
  obtain ⟨nm, dt, ov, os⟩ := x
  have HF := Lib.hid (show badF (DF.lo ⟨nm, dt, ov, os⟩) = (!nameB nm || (decide (200 < os.length) || (decide (262144 < dt.length) || os.any badO))) from rfl)
  simp only at hr hn hd ho hol
  generalize badF (DF.lo ⟨nm, dt, ov, os⟩) = bf at *
  obtain ⟨a, c, rfl, hc, hm, hx⟩ := hr
  have HX := Lib.hid hx
  have HOL := Lib.hid hol
  clear hx hol
  have CN := rname_walk nm (w.alloc (.cells #[S nm, S dt, .slice a os.length c] 50)) hn
  have hb0 : Below w.heap.size w (w.alloc (.cells #[S nm, S dt, .slice a os.length c] 50)) := (Below.refl _ _).alloc (Nat.le_refl _) _
  obtain ⟨nb, hnb⟩ : ∃ nb, nameB nm = nb := ⟨_, rfl⟩
  rw [hnb] at CN HF
  clear hnb
  cases nb with
  | false =>
    have HR := Lib.hid (show bf = true by rw [HF.out]; rfl)
    go_enter Try.func40, Try.ntmps40
    go_wp2_with (go_at_call 63; refine (CN).mono ?_; rintro e w1 ⟨rfl, rfl⟩)
    go_ret
    exact ⟨by rw [HR.out]; rfl, hb0⟩
  | true =>
    by_cases h1 : 200 < os.length
    · have h1' : (200 : Int) < (os.length : Int) := by omega
      have HR := Lib.hid (show bf = true by rw [HF.out]; simp [h1])
      go_enter Try.func40, Try.ntmps40
      go_wp2_with (go_at_call 63; refine (CN).mono ?_; rintro e w1 ⟨rfl, rfl⟩)
      go_ret
      exact ⟨by rw [HR.out]; rfl, hb0⟩
    have h1' : ¬ (200 : Int) < (os.length : Int) := by omega
    by_cases h2 : 262144 < dt.length
    · have h2' : (262144 : Int) < (dt.length : Int) := by omega
      have HR := Lib.hid (show bf = true by rw [HF.out]; simp [h2])
      go_enter Try.func40, Try.ntmps40
      go_wp2_with (go_at_call 63; refine (CN).mono ?_; rintro e w1 ⟨rfl, rfl⟩)
      go_ret
      exact ⟨by rw [HR.out]; rfl, hb0⟩
    have h2' : ¬ (262144 : Int) < (dt.length : Int) := by omega
    have HR := Lib.hid (show bf = os.any badO by rw [HF.out]; simp [h1, h2])
    clear HF h1 h2
    obtain ⟨w0, hw0⟩ : ∃ w0, w0 = w.alloc (.cells #[S nm, S dt, .slice a os.length c] 50) := ⟨_, rfl⟩
    rw [← hw0] at hb0 CN
    have hd0 : w0.cell? ⟨w.heap.size, 0, none⟩ = some (S nm) := by rw [hw0]; exact cell_new w _ _ 0 rfl
    have hd1 : w0.cell? ⟨w.heap.size, 1, none⟩ = some (S dt) := by rw [hw0]; exact cell_new w _ _ 1 rfl
    have hd2 : w0.cell? ⟨w.heap.size, 2, none⟩ = some (.slice a os.length c) := by rw [hw0]; exact cell_new w _ _ 2 rfl
    go_enter Try.func40, Try.ntmps40
    go_wp2_with fail
    rw [← hw0]
    clear hw0
    go_wp2_with (go_at_call 63; refine (CN).mono ?_; rintro e w1 ⟨rfl, rfl⟩)
    clear CN
    go_loopw [3] (fun i wr => ∃ k : Nat, k ≤ os.length ∧ i = .int .i64 k ∧ (∀ o ∈ os.take k, badO o = false) ∧ Below w0.heap.size w0 wr) (fun i _ => os.length - (intOf i).toNat)
    case atStart => exact ⟨0, Nat.zero_le _, rfl, by simp, Below.refl _ _⟩
    case round =>
      obtain ⟨k, hk, rfl, hall, hB⟩ := hrel
      have HALL := Lib.hid hall
      have hcd := cell_below hB hd2
      have HB := Lib.hid (below_chain hb0 hB hb0.size)
      have HBA := Lib.hid (fun X => hB.alloc hB.size X)
      clear hall
      by_cases h1 : k < os.length
      · have hx := HX.out
        rcases hx with hx | ⟨b, o, rfl, hx⟩
        · exfalso; rw [hx] at h1; simp at h1
        obtain ⟨hx1, hx2⟩ := op_cells hx h1
        have hc1 := cell_below hB (cell_below hb0 hx1)
        have hc2 := cell_below hB (cell_below hb0 hx2)
        have HBAD := Lib.hid (fun h => any_take_bad h1 h)
        have HOK := Lib.hid (fun h => none_step (p := badO) h1 HALL.out h)
        have hln := HOL.out os[k] (by simp)
        clear hx hx1 hx2 hB
        generalize os[k] = y at *
        obtain ⟨p, q⟩ := y
        have HE := Lib.hid (show badO (p, q) = (decide (p < 0) || (decide (262144 < p) || (q.isEmpty || decide ((262144 : Int) - p < q.length)))) from rfl)
        simp only at hc1 hc2 hln
        generalize badO (p, q) = bo at *
        have h1' : (k : Int) < (os.length : Int) := by omega
        by_cases g1 : p < 0
        · have HX1 := Lib.hid (HBAD.out (by rw [HE.out]; simp [g1]))
          go_wp2
          go_ret
          exact ⟨by rw [HR.out, HX1.out]; rfl, HB.out.alloc HB.out.size _⟩
        by_cases g2 : 262144 < p
        · have HX1 := Lib.hid (HBAD.out (by rw [HE.out]; simp [g2]))
          go_wp2
          go_ret
          exact ⟨by rw [HR.out, HX1.out]; rfl, HB.out.alloc HB.out.size _⟩
        by_cases g3 : q.isEmpty = true
        · have HX1 := Lib.hid (HBAD.out (by rw [HE.out]; simp [g3]))
          go_wp2
          go_ret
          exact ⟨by rw [HR.out, HX1.out]; rfl, HB.out.alloc HB.out.size _⟩
        have g3 : q.isEmpty = false := by simpa using g3
        have hwr : IntKind.i64.wrap (262144 - p) = 262144 - p := by rw [IntKind.wrap_i64]; omega
        by_cases g4 : (262144 : Int) - p < q.length
        · have HX1 := Lib.hid (HBAD.out (by rw [HE.out]; simp [g4]))
          go_wp2
          go_ret
          exact ⟨by rw [HR.out, HX1.out]; rfl, HB.out.alloc HB.out.size _⟩
        · have HX1 := Lib.hid (HOK.out (by rw [HE.out]; simp [g1, g2, g3, g4]))
          clear HE
          go_wp2
          go_roundw
          case rel => exact ⟨k + 1, by omega, by go_num, HX1.out, HBA.out _⟩
          case measure => simp [intOf]; omega
      · have h1' : ¬ (k : Int) < (os.length : Int) := by omega
        have HX1 := Lib.hid (show os.any badO = false from any_none (by have := HALL.out; rwa [List.take_of_length_le (by omega)] at this))
        go_wp2
        go_ret
        exact ⟨by rw [HR.out, HX1.out]; rfl, HB.out⟩
end Go.Proofs.Ythjoaoakadaieaa
