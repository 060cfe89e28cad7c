/- Chapter 20's example. -/
import Derived.Test.YtengciicdnkgaaaGreatDoorGcDefs
import Derived.Test.YtengciicdnkgaaaGreatDoorShelf
namespace Go.Proofs.YtengciicdnkgaaaGreatDoor
open Go.RowKit

set_option maxHeartbeats 1100000 in
theorem clonil_walk (w : World) : Calls Tryz.prog 27 #[.slice none 0 0] w fun e w' => e = .returned (.slice none 0 0) ∧ w' = w := by
  have hq : ∀ (w : World) (a : Option Addr) (n c n' c' : Nat), (binOp .eql 22 (.slice a n c) (.slice none n' c')).run Tryz.prog w = .ok (.bool a.isNone) w := fun w a n c n' c' => Lib.run_eql_slice_nil w _ _ a n c n' c' Tryz.underlying22
  go_enter Tryz.func27, Tryz.ntmps27
  go_wp2
  go_ret
  exact ⟨rfl, rfl⟩

set_option maxHeartbeats 1100000 in
theorem idxnil_walk (fv : Value) (w : World) : Calls Tryz.prog 58 #[.slice none 0 0, fv] w fun e w' => e = .returned (.int .i64 (-1)) ∧ w' = w := by
  go_enter Tryz.func58, Tryz.ntmps58
  go_wp2
  go_loopw [8] (fun i wr => i = .int .i64 0 ∧ wr = w) (fun i _ => 0)
  case atStart => exact ⟨rfl, rfl⟩
  case round =>
    obtain ⟨rfl, rfl⟩ := hrel
    go_wp2
    go_ret
    exact ⟨rfl, rfl⟩

set_option maxHeartbeats 1100000 in
theorem delnil_walk (fv : Value) (w : World) : Calls Tryz.prog 45 #[.slice none 0 0, fv] w fun e w' => e = .returned (.slice none 0 0) ∧ w' = w := by
  have C := fun w => idxnil_walk fv w
  go_enter Tryz.func45, Tryz.ntmps45
  go_wp2_with (go_at_call 58; refine (C _).mono ?_; rintro e w1 ⟨rfl, rfl⟩)
  go_ret
  exact ⟨rfl, rfl⟩

set_option maxHeartbeats 1100000 in
theorem insnil_walk (w : World) : Calls Tryz.prog 88 #[.slice none 0 0, .int .i64 0, .int .i64 0] w fun e w' => e = .returned (.tuple #[]) ∧ w' = w := by
  go_enter Tryz.func88, Tryz.ntmps88
  go_wp2
  go_loopw [6] (fun i wr => i = .int .i64 1 ∧ wr = w) (fun i _ => 0)
  case atStart => exact ⟨by go_num, rfl⟩
  case round =>
    obtain ⟨rfl, rfl⟩ := hrel
    go_wp2
    go_end0
    exact ⟨rfl, rfl⟩

set_option maxHeartbeats 2000000 in
set_option maxRecDepth 100000 in
theorem pdqnil_walk (n : Int) (w : World) : Calls Tryz.prog 62 #[.slice none 0 0, .int .i64 0, .int .i64 0, .int .i64 n] w fun e w' => e = .returned (.tuple #[]) ∧ w' = w := by
  have C := fun w => insnil_walk w
  go_enter Tryz.func62, Tryz.ntmps62
  go_wp2
  go_loopw [1, 2, 3, 8, 9, 10] (fun a b c d e f wr => a = .int .i64 0 ∧ b = .int .i64 0 ∧ wr = w) (fun _ _ _ _ _ _ _ => 0)
  case atStart => exact ⟨rfl, rfl, rfl⟩
  case round =>
    obtain ⟨rfl, rfl, rfl⟩ := hrel
    go_wp2_with fail
    refine (C _).mono ?_
    rintro e w1 ⟨rfl, rfl⟩
    go_wp2
    refine bodyPost_ret (results_none rfl _ _ _) rfl ?_
    exact ⟨rfl, rfl⟩

set_option maxHeartbeats 1100000 in
theorem sortnil_walk (w : World) : Calls Tryz.prog 47 #[.slice none 0 0] w fun e w' => e = .returned (.tuple #[]) ∧ w' = w := by
  have CL := Tryz.bits_Len 0 w (by decide) (by decide)
  have CP := fun n => pdqnil_walk n w
  go_enter Tryz.func47, Tryz.ntmps47
  go_wp2_with fail
  refine CL.mono ?_
  rintro e w1 ⟨rfl, rfl⟩
  go_wp2_with fail
  refine (CP _).mono ?_
  rintro e w2 ⟨rfl, rfl⟩
  go_wp2
  go_end0
  exact ⟨rfl, rfl⟩

set_option maxHeartbeats 1100000 in
theorem compnil_walk (w : World) : Calls Tryz.prog 33 #[.slice none 0 0] w fun e w' => e = .returned (.slice none 0 0) ∧ w' = w := by
  go_enter Tryz.func33, Tryz.ntmps33
  go_wp2
  go_ret
  exact ⟨rfl, rfl⟩

set_option maxHeartbeats 1100000 in
theorem ofnil_walk (w : World) : Calls Tryz.prog 26 #[.slice none 0 0] w fun e w' => e = .returned (.slice none 0 0) ∧ w' = w := by
  go_enter Tryz.func26, Tryz.ntmps26
  go_wp2_with fail
  refine (clonil_walk w).mono ?_
  rintro e w1 ⟨rfl, rfl⟩
  go_wp2_with fail
  refine (delnil_walk _ _).mono ?_
  rintro e w2 ⟨rfl, rfl⟩
  go_wp2_with fail
  refine (sortnil_walk _).mono ?_
  rintro e w3 ⟨rfl, rfl⟩
  go_wp2_with fail
  refine (compnil_walk _).mono ?_
  rintro e w4 ⟨rfl, rfl⟩
  go_wp2
  go_ret
  exact ⟨rfl, rfl⟩

set_option maxHeartbeats 2000000 in
theorem begnil_walk (w : World) : Calls Tryz.prog 13 #[.slice none 0 0] w fun e w' => e = .returned (GcV true (.slice none 0 0) (.slice none 0 0)) ∧ Below w.heap.size w w' := by
  obtain ⟨w1, hw1, hB1, hr1⟩ : ∃ w1, w1 = w.alloc (GCells false (.slice none 0 0) (.slice none 0 0)) ∧ Below w.heap.size w w1 ∧ w1.heap[w.heap.size]? = some (GCells false (.slice none 0 0) (.slice none 0 0)) :=
    ⟨_, rfl, (Below.refl _ _).alloc (Nat.le_refl _) _, heap_alloc_new w _⟩
  go_enter Tryz.func13, Tryz.ntmps13
  go_upto_region 1 with fail
  rw [← hw1]
  clear hw1
  obtain ⟨r0, r1, r2⟩ := gcells hr1
  have s0 := is_some r0
  have s1 := is_some r1
  have s2 := is_some r2
  have f0 := heap_free hr1 0
  have f1 := heap_free hr1 1
  have f2 := heap_free hr1 2
  go_wp2_with fail
  refine (ofnil_walk _).mono ?_
  rintro e w2 ⟨rfl, rfl⟩
  go_wp2_with fail
  refine (clonil_walk _).mono ?_
  rintro e w3 ⟨rfl, rfl⟩
  go_wp2
  refine bodyPost_ret (v := GcV true (.slice none 0 0) (.slice none 0 0)) (by simp [results, Tryz.results13, go_sem, s0, s1, s2]) rfl ?_
  exact ⟨rfl, below_setC (below_setC (below_setC hB1 (Nat.le_refl _) 0 _) (Nat.le_refl _) 1 _) (Nat.le_refl _) 2 _⟩

set_option maxHeartbeats 1100000 in
theorem done_walk (on : Bool) (w : World) : Calls Tryz.prog 11 #[GcV on (.slice none 0 0) (.slice none 0 0)] w fun e w' => e = .returned (.bool on) ∧ Below w.heap.size w w' := by
  cases on
  all_goals
    go_enter Tryz.func11, Tryz.ntmps11
    go_wp2
    go_ret
    exact ⟨rfl, (Below.refl _ _).alloc (Nat.le_refl _) _⟩

set_option maxHeartbeats 1100000 in
theorem awake20_walk (w : World) : Calls Tryz.prog 8 #[] w fun e w' => e = .returned (.bool true) ∧ Below w.heap.size w w' := by
  go_enter Tryz.func8, Tryz.ntmps8
  go_wp2_with fail
  refine (begnil_walk _).mono ?_
  rintro e w1 ⟨rfl, hb1⟩
  go_wp2_with fail
  refine (done_walk true w1).mono ?_
  rintro e w2 ⟨rfl, hb2⟩
  have hB2 := below_chain hb1 hb2 hb1.size
  go_wp2_with fail
  refine (done_walk false w2).mono ?_
  rintro e w3 ⟨rfl, hb3⟩
  go_wp2
  go_ret
  exact ⟨rfl, below_chain hB2 hb3 hB2.size⟩
end Go.Proofs.YtengciicdnkgaaaGreatDoor
