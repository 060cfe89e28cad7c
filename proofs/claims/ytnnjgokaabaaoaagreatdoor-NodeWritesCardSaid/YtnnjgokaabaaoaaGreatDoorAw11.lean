/- The examples of nodes that each law of the chapter ends with. -/
import Derived.Test.YtnnjgokaabaaoaaGreatDoorPRead11
import Derived.Test.YtnnjgokaabaaoaaGreatDoorPWr11
namespace Go.Proofs.YtnnjgokaabaaoaaGreatDoor
open Go.RowKit

theorem read30 : readN [3, 0] = (⟨3, [], [], []⟩, 0) := by
  have h1 : numR 1024 [0] = some (0, []) := by
    unfold numR
    rw [takeV_small (c := 0) (l := []) (by decide), if_neg (by decide)]
    rfl
  have h2 : parseN [3, 0] = some (⟨3, [], [], []⟩, []) := by
    rw [parseN_cons, if_neg (by decide), if_neg (by decide), if_pos (by decide)]
    unfold listR
    rw [h1]
    rfl
  unfold readN
  rw [h2]
  simp only
  rw [if_pos ⟨trivial, fitN_iff.2 (.inr (.inr ⟨rfl, rfl, rfl, ⟨by simp, by simp, List.Pairwise.nil⟩⟩))⟩]

theorem readN_small (s : List UInt8) : (readN s).1.parts.length ≤ 1100000 ∧ (readN s).1.ents.length ≤ 1100000 := by
  unfold readN
  cases parseN s with
  | none => simp [zNod]
  | some q =>
    obtain ⟨n, r⟩ := q
    simp only
    split
    · rename_i h
      simp only
      rcases fitN_iff.1 h.2 with ⟨_, _, _, h4, h5⟩ | ⟨_, _, h4, h5⟩ | ⟨_, _, h4, h5⟩
      · rw [h4, h5]; simp
      · rw [h4]; exact ⟨by have := h5.len; omega, by simp⟩
      · rw [h4]; exact ⟨by simp, by have := h5.len; omega⟩
    · simp [zNod]

set_option maxHeartbeats 4000000 in
set_option maxRecDepth 100000 in
theorem awake11_walk (w : World) (hT : ErrT w) :
    Calls Tryz.prog 8 #[] w fun e w' => e = .returned (.bool true) ∧ Below w.heap.size w w' := by
  have CR := pread11_walk [3, 0] w hT (by simp)
  unfold ReadPost at CR
  rw [read30] at CR
  clear hT
  go_enter Tryz.func8, Tryz.ntmps8
  go_wp2_with fail
  refine CR.mono ?_
  rintro e w1 ⟨vp, ve, rfl, hrow, hb1⟩
  obtain ⟨va, vc, rfl⟩ := row_slice hrow.parts
  obtain ⟨ua, uc, rfl⟩ := row_slice hrow.ents
  simp only [List.length_nil] at *
  obtain ⟨w2, hw2, hz2, hB2⟩ : ∃ w2, w2 = w1.alloc (.cells #[.int .i64 3, S [], .slice va 0 vc, .slice ua 0 uc] 25) ∧ w2.heap[w1.heap.size]? = some (.cells #[.int .i64 3, S [], .slice va 0 vc, .slice ua 0 uc] 25 (0, 0)) ∧ Below w.heap.size w w2 :=
    ⟨_, rfl, heap_alloc_new _ _, hb1.alloc hb1.size _⟩
  clear CR hrow hb1
  go_upto_region 2 with fail
  rw [← hw2]
  clear hw2
  have C1 := pwr_one w2
  go_wp2_with fail
  refine C1.mono ?_
  rintro e w3 ⟨rfl, hb3⟩
  have hz3 := (hb3.block _ (heap_lt hz2)).trans hz2
  have hB3 := below_chain hB2 hb3 hB2.size
  have C2 := pwr_two w3
  clear C1 hz2 hB2 hb3
  go_wp2_with fail
  refine C2.mono ?_
  rintro e w4 ⟨rfl, hb4⟩
  obtain ⟨⟨z0, z1, z2, z3⟩, -, -⟩ := box4 ((hb4.block _ (heap_lt hz3)).trans hz3)
  have hB4 := below_chain hB3 hb4 hB3.size
  clear C2 hz3 hB3 hb4
  go_wp2
  go_ret
  exact ⟨rfl, hB4⟩
end Go.Proofs.YtnnjgokaabaaoaaGreatDoor
