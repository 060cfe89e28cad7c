/- Chapter 18: the trees that records come to are the document's, and are fit. -/
import Derived.Test.YtmlahfmcccpgjaaPReplay
import Derived.Test.YtmlahfmcccpgjaaPFit
namespace Go.Proofs.Ytmlahfmcccpgjaa
open Go.RowKit

theorem putV_one : putV 1 = [1] := by rw [putV_small (by decide)]; rfl
theorem record_a : recordR ([97], []) true = [2, 1, 97] := by
  have h1 : nameB [97] = true := by decide
  have h2 : putText [97] = [1, 97] := by unfold putText; rw [if_neg (by decide)]; show putV 1 ++ [97] = _; rw [putV_one]; rfl
  unfold recordR
  simp only [h1, h2]
  rfl

set_option maxHeartbeats 1000000 in
theorem awake18_walk (w : World) : Calls Try.prog 9 #[] w fun e w' => e = .returned (.bool true) ∧ Below w.heap.size w w' := by
  have C1 := preplay_walk (.slice none 0 0) [] w (StrRow.nil w) (by simp) (by simp)
  have C2 := fun w => precord_walk ([97], []) true w (by simp) (by simp)
  rw [record_a] at C2
  simp only [replayR] at C1
  go_enter Try.func9, Try.ntmps9
  go_wp2_with fail
  refine C1.mono ?_
  rintro e w1 ⟨v1, rfl, ⟨a, c, rfl, _, _, _⟩, hb⟩
  go_wp2_with fail
  refine (C2 _).mono ?_
  rintro e w2 ⟨rfl, hb2⟩
  go_wp2
  go_ret
  exact ⟨rfl, below_chain hb hb2 hb.size⟩

set_option maxHeartbeats 2000000 in
set_option maxRecDepth 100000 in
theorem rreplays_walk (v : Value) (xs : List (List UInt8)) (w : World) (hr : StrRow w v xs) :
    Calls Try.prog 3 #[v] w fun e w' => e = .returned (.bool true) ∧ Below w.heap.size w w' := by
  have HR := Lib.hid hr
  obtain ⟨a, c, rfl, hc, hm, hx⟩ := hr
  have HX := Lib.hid hx
  unfold maxLen at hm
  clear hx
  by_cases h60 : 60 < xs.length
  · have h60' : (60 : Int) < (xs.length : Int) := by omega
    go_enter Try.func3, Try.ntmps3
    go_wp2_with (go_at_call 9; refine (awake18_walk _).mono ?_; rintro e w1 ⟨rfl, hb⟩)
    go_ret
    exact ⟨rfl, hb⟩
  have h60' : ¬ (60 : Int) < (xs.length : Int) := by omega
  go_enter Try.func3, Try.ntmps3
  go_wp2
  go_loopw [15] (fun i wr => ∃ k : Nat, k ≤ xs.length ∧ i = .int .i64 k ∧ (∀ x ∈ xs.take k, x.length ≤ 300) ∧ Below w.heap.size w wr) (fun i _ => xs.length - (intOf i).toNat)
  case atStart => exact ⟨0, Nat.zero_le _, rfl, by simp, Below.refl _ _⟩
  case round =>
    obtain ⟨k, hk, rfl, hall, hB⟩ := hrel
    have HALL := Lib.hid hall
    have HB := Lib.hid hB
    clear hall
    by_cases h1 : k < xs.length
    · have h1' : (k : Int) < (xs.length : Int) := by omega
      have hx := HX.out
      rcases hx with hx | ⟨b, o, rfl, hx⟩
      · exfalso; rw [hx] at h1; simp at h1
      have hc1 := cell_below hB (str_cells hx h1)
      have HST := Lib.hid (fun (h : xs[k].length ≤ 300) => (show ∀ x ∈ xs.take (k + 1), x.length ≤ 300 by
        intro x hx2
        rw [List.take_succ_eq_append_getElem h1, List.mem_append] at hx2
        rcases hx2 with h2 | h2
        · exact HALL.out x h2
        · simp at h2; rw [h2]; exact h))
      clear hx hB
      generalize xs[k] = s at *
      by_cases h3 : s.length ≤ 300
      · have HF := Lib.hid (HST.out h3)
        have h3' : ¬ (300 : Int) < (s.length : Int) := by omega
        clear HST
        go_wp2
        go_roundw
        case rel => exact ⟨k + 1, by omega, by go_num, HF.out, HB.out⟩
        case measure => simp [intOf]; omega
      · have h3' : (300 : Int) < (s.length : Int) := by omega
        go_wp2_with (go_at_call 9; refine (awake18_walk _).mono ?_; rintro e w1 ⟨rfl, hb⟩)
        go_ret
        exact ⟨rfl, below_chain HB.out hb HB.out.size⟩
    · have h1' : ¬ (k : Int) < (xs.length : Int) := by omega
      have hall2 : ∀ x ∈ xs, x.length ≤ 1000000 := by
        intro x hx2
        have := HALL.out x (by rw [List.take_of_length_le (by omega)]; exact hx2)
        omega
      have C1 := preplay_walk _ xs wr (HR.out.below hB) (by omega) hall2
      have HRR := Lib.hid (fun w' (hb : Below wr.heap.size wr w') => r18replay_walk _ xs w' ((HR.out.below hB).below hb) (by omega) hall2)
      have hfit := fitR_replay xs [] 0 rfl
      have hl20 := (fitR_parts hfit).1
      have hlen : ∀ x ∈ (replayR [] 0 xs).1, x.1.length ≤ 1000000 ∧ x.2.length ≤ 1000000 := by
        intro x hx2
        have h2 := List.all_eq_true.1 (fitR_parts hfit).2.1 x hx2
        simp only [eachR, Bool.and_eq_true, beq_iff_eq] at h2
        have := nameB_len h2.1
        omega
      have HFIT := Lib.hid hfit
      have HLEN := Lib.hid hlen
      generalize replayR [] 0 xs = rp at *
      obtain ⟨l, n⟩ := rp
      simp only at C1 HRR hl20 HFIT HLEN
      clear hB hall2 hfit hlen
      go_wp2_with fail
      refine C1.mono ?_
      rintro e w1 ⟨v1, rfl, hr1, hb1⟩
      go_wp2_with fail
      refine (HRR.out _ hb1).mono ?_
      rintro e w2 ⟨v2, rfl, hr2, hb2⟩
      have hr12 := hr1.below hb2
      have HR12 := Lib.hid hr12
      have C3 := r18same_walk v1 v2 l l w2 hr12 hr2 (by omega)
      rw [show (l == l) = true by simp] at C3
      clear C1 hr1 hr12 hr2
      go_wp2_with fail
      refine C3.mono ?_
      rintro e w3 ⟨rfl, hb3⟩
      have hnn : ((n : Int) == (n : Int)) = true := by simp
      go_wp2_with fail
      refine (r18fit_walk v1 l w3 (HR12.out.below hb3) (by omega) HLEN.out).mono ?_
      rintro e w4 ⟨rfl, hb4⟩
      rw [HFIT.out]
      go_wp2_with fail
      refine (awake18_walk w4).mono ?_
      rintro e w5 ⟨rfl, hb5⟩
      go_wp2
      go_ret
      have q1 := below_chain HB.out hb1 HB.out.size
      have q2 := below_chain q1 hb2 q1.size
      have q3 := below_chain q2 hb3 q2.size
      have q4 := below_chain q3 hb4 q3.size
      exact ⟨rfl, below_chain q4 hb5 q4.size⟩
end Go.Proofs.Ytmlahfmcccpgjaa
