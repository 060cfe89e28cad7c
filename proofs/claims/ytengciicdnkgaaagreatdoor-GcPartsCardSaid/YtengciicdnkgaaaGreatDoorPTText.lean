/- varint.TakeText. -/
import Derived.Test.YtengciicdnkgaaaGreatDoorPTake2
namespace Go.Proofs.YtengciicdnkgaaaGreatDoor
open Go.RowKit

set_option maxHeartbeats 1100000 in
set_option maxRecDepth 100000 in
theorem ptaketext_walk (l : List UInt8) (w : World) (hl : l.length ≤ 1100000) :
    Calls Tryz.prog 120 #[S l] w fun e w' => e = .returned (.tuple #[S (takeText l).1, .int .i64 ((takeText l).2.1 : Nat), .int .i64 (takeText l).2.2]) ∧ Below w.heap.size w w' := by
  have C := ptake_walk l w hl
  have HT := Lib.hid (show takeText l = if (takeV l).2.2 ≠ 0 then ([], 0, (takeV l).2.2) else if 65536 < (takeV l).1 then ([], 0, 4) else if l.length - (takeV l).2.1 < (takeV l).1 then ([], 0, 1) else (cutL l (takeV l).2.1 ((takeV l).2.1 + (takeV l).1), (takeV l).2.1 + (takeV l).1, 0) from rfl)
  have hok := takeV_ok (l := l)
  generalize takeText l = tt at *
  generalize takeV l = tv at *
  obtain ⟨n, k, e⟩ := tv
  simp only at C HT hok
  by_cases he : e = 0
  · subst he
    obtain ⟨h1, h2, h3⟩ := hok rfl
    have HT1 := Lib.hid (HT.out.trans (if_neg (by simp)))
    clear hok HT
    by_cases h4 : 65536 < n
    · have HT2 := Lib.hid (HT1.out.trans (if_pos h4))
      have h4' : (65536 : Int) < (n : Int) := by omega
      go_enter Tryz.func120, Tryz.ntmps120
      go_wp2_with (go_at_call 119; refine C.mono ?_; rintro e w1 ⟨rfl, hb⟩)
      go_ret3
      exact ⟨by rw [HT2.out]; rfl, hb⟩
    · have HT2 := Lib.hid (HT1.out.trans (if_neg h4))
      have h4' : ¬ (65536 : Int) < (n : Int) := by omega
      by_cases h5 : l.length - k < n
      · have HT3 := Lib.hid (HT2.out.trans (if_pos h5))
        have h5' : (l.length : Int) - (k : Int) < (n : Int) := by omega
        go_enter Tryz.func120, Tryz.ntmps120
        go_wp2_with (go_at_call 119; refine C.mono ?_; rintro e w1 ⟨rfl, hb⟩)
        go_ret3
        exact ⟨by rw [HT3.out]; rfl, hb⟩
      · have HT3 := Lib.hid (HT2.out.trans (if_neg h5))
        have h5' : ¬ (l.length : Int) - (k : Int) < (n : Int) := by omega
        have h6 : k + n ≤ l.length := by omega
        have h6' : (k : Int) + (n : Int) ≤ (l.length : Int) := by omega
        go_enter Tryz.func120, Tryz.ntmps120
        go_wp2_with (go_at_call 119; refine C.mono ?_; rintro e w1 ⟨rfl, hb⟩)
        go_ret3
        exact ⟨by rw [HT3.out, ← S_extract]; rfl, hb⟩
  · have HT1 := Lib.hid (HT.out.trans (if_pos he))
    have he' : (e == 0) = false := by rw [beq_eq_false_iff_ne]; exact he
    have he2 : (e != 0) = true := by rw [bne_iff_ne]; exact he
    go_enter Tryz.func120, Tryz.ntmps120
    go_wp2_with (go_at_call 119; refine C.mono ?_; rintro e w1 ⟨rfl, hb⟩)
    go_ret3
    exact ⟨by rw [HT1.out]; rfl, hb⟩
end Go.Proofs.YtengciicdnkgaaaGreatDoor
