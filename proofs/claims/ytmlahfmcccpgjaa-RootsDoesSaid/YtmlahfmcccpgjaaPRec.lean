/- The program's Fit, Record, read, Replay on trees that are kept. -/
import Derived.Test.YtmlahfmcccpgjaaPPut
import Derived.Test.YtmlahfmcccpgjaaPTText
namespace Go.Proofs.Ytmlahfmcccpgjaa
open Go.RowKit

theorem run_conv1 (c : Nat) (b : UInt8) (W : World) (g : Nat) (h : W.cell? ⟨g, 0, none⟩ = some (.int .u8 (b.toNat : Int))) : (convert 70 9 (.slice (some ⟨g, 0, none⟩) 1 c)).run Try.prog W = .ok (.string ⟨#[b]⟩) W := by
  refine run_convert_bytes_back W _ _ 5 _ _ [b] Try.underlying70 Try.underlying5 Try.underlying9 fun j hj => ?_
  obtain rfl : j = 0 := by simp at hj; omega
  simpa [Addr.add] using h

set_option maxHeartbeats 2000000 in
set_option maxRecDepth 100000 in
theorem precord_walk (x : Snp) (goes : Bool) (w : World) (hx1 : x.1.length ≤ 1000000) (hx2 : x.2.length ≤ 1000000) :
    Calls Try.prog 15 #[SnpV x, .bool goes] w fun e w' => e = .returned (S (recordR x goes)) ∧ Below w.heap.size w w' := by
  obtain ⟨p, q⟩ := x
  have HR := Lib.hid (show recordR (p, q) goes = if nameB p = false ∨ (goes = false ∧ q.length ≠ 32) then [] else if goes = true then 2 :: putText p else 1 :: (putText p ++ q) from rfl)
  generalize recordR (p, q) goes = rc at *
  simp only at hx1 hx2
  have hBx : Below w.heap.size w (w.alloc (.cells #[S p, S q] 31)) := (Below.refl _ _).alloc (Nat.le_refl _) _
  have hcx1 := cell_new w #[S p, S q] 31 0 rfl
  have hcx2 := cell_new w #[S p, S q] 31 1 rfl
  have hpl := putText_len hx1
  have CN := fun w => name_walk p w hx1
  generalize nameB p = nb at *
  cases nb with
  | false =>
    have HR1 := Lib.hid (HR.out.trans (if_pos (.inl rfl)))
    go_enter Try.func15, Try.ntmps15
    go_wp2_with (go_at_call 45; refine (CN _).mono ?_; rintro e w1 ⟨rfl, hb⟩)
    go_ret
    exact ⟨by rw [HR1.out]; rfl, below_chain hBx hb (by simp)⟩
  | true =>
    have CP := fun w => pputtext_walk p w hx1
    cases goes with
    | true =>
      have HR1 := Lib.hid ((HR.out.trans (if_neg (by simp))).trans (if_pos rfl))
      generalize putText p = pt at *
      have hns : ¬ 9223372036854775807 < 1 + pt.length := by omega
      go_enter Try.func15, Try.ntmps15
      go_wp2_with fail
      refine (CN _).mono ?_
      rintro e w1 ⟨rfl, hb⟩
      have hp1 := cell_below hb hcx1
      have hB1 := below_chain hBx hb (by simp)
      have hz1 : w.heap.size + 1 ≤ w1.heap.size := by have := hb.size; simpa using this
      have hp1a := fun o => cell_old hp1 o
      have hcv := run_conv1 1 2
      simp only [show ((2 : UInt8).toNat : Int) = 2 from rfl] at hcv
      go_wp2
      go_region_with (go_at_call 46; refine (CP _).mono ?_; rintro e w2 ⟨rfl, hb2⟩; obtain ⟨hbc, hbf⟩ := bcell hb2; have hz2 := hb2.size)
      all_goals
        go_wp2
        go_ret
        refine ⟨by rw [HR1.out, ← S_cons]; rfl, ?_⟩
        first
          | exact below_chain ((hB1.alloc hB1.size _).drew) hb2 (by simp; omega)
          | exact below_chain hB1.drew hb2 (by simp; omega)
          | exact (below_chain hB1.drew hb2 (by simp; omega)).alloc (by simp at hz2; omega) _
    | false =>
      by_cases hq : q.length = 32
      · have HR1 := Lib.hid ((HR.out.trans (if_neg (by simp [hq]))).trans (if_neg (by simp)))
        have hq' : ((q.length : Int) != 32) = false := by rw [bne_eq_false_iff_eq]; omega
        generalize putText p = pt at *
        have hns : ¬ 9223372036854775807 < 1 + pt.length := by omega
        have hns2 : ¬ 9223372036854775807 < 1 + pt.length + q.length := by omega
        clear hq
        go_enter Try.func15, Try.ntmps15
        go_wp2_with fail
        refine (CN _).mono ?_
        rintro e w1 ⟨rfl, hb⟩
        have hp1 := cell_below hb hcx1
        have hp2 := cell_below hb hcx2
        have hB1 := below_chain hBx hb (by simp)
        have hz1 : w.heap.size + 1 ≤ w1.heap.size := by have := hb.size; simpa using this
        have hp1a := fun o => cell_old hp1 o
        have hp2a := fun o => cell_old hp2 o
        have HP2 := Lib.hid hp2
        have hcv := run_conv1 1 1
        simp only [show ((1 : UInt8).toNat : Int) = 1 from rfl] at hcv
        go_wp2
        go_region_with (go_at_call 46; refine (CP _).mono ?_; rintro e w2 ⟨rfl, hb2⟩; obtain ⟨hbc, hbf⟩ := bcell hb2; have hz2 := hb2.size; (have hs2 : w2.cell? ⟨w.heap.size, 1, none⟩ = some (S q) := by first | exact cell_below hb2 (show World.cell? _ _ = _ from HP2.out) | exact cell_below hb2 (show World.cell? _ _ = _ from cell_old HP2.out _)); have hs2a := fun o => cell_old hs2 o)
        all_goals
          go_wp2
          go_ret
          refine ⟨by rw [HR1.out, ← S_cons2]; rfl, ?_⟩
          first
            | exact below_chain ((hB1.alloc hB1.size _).drew) hb2 (by simp; omega)
            | exact below_chain hB1.drew hb2 (by simp; omega)
            | exact (below_chain hB1.drew hb2 (by simp; omega)).alloc (by simp at hz2; omega) _
      · have HR1 := Lib.hid (HR.out.trans (if_pos (.inr ⟨rfl, hq⟩)))
        have hq' : ((q.length : Int) != 32) = true := by rw [bne_iff_ne]; omega
        clear hq
        go_enter Try.func15, Try.ntmps15
        go_wp2_with (go_at_call 45; refine (CN _).mono ?_; rintro e w1 ⟨rfl, hb⟩; have hp2 := cell_below hb hcx2)
        go_ret
        exact ⟨by rw [HR1.out]; rfl, below_chain hBx hb (by simp)⟩
end Go.Proofs.Ytmlahfmcccpgjaa
