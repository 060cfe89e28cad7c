/- NodeReads: what the program reads is what the reference reads. -/
import Derived.Test.YtnnjgokaabaaoaaDoorR11g
import Derived.Test.YtnnjgokaabaaoaaDoorPWr11
namespace Go.Proofs.YtnnjgokaabaaoaaDoor
open Go.RowKit

theorem read30 : readN [3, 0] = (⟨3, [], [], []⟩, 0) := by
  have h1 : numR 1024 [0] = some (0, []) := by
    unfold numR
    rw [takeV_small (c := 0) (l := []) (by decide), if_neg (by decide)]
    rfl
  have h2 : parseN [3, 0] = some (⟨3, [], [], []⟩, []) := by
    rw [parseN_cons, if_neg (by decide), if_neg (by decide), if_pos (by decide)]
    unfold listR
    rw [h1]
    rfl
  unfold readN
  rw [h2]
  simp only
  rw [if_pos ⟨trivial, fitN_iff.2 (.inr (.inr ⟨rfl, rfl, rfl, ⟨by simp, by simp, List.Pairwise.nil⟩⟩))⟩]

theorem readN_small (s : List UInt8) : (readN s).1.parts.length ≤ 1100000 ∧ (readN s).1.ents.length ≤ 1100000 := by
  unfold readN
  cases parseN s with
  | none => simp [zNod]
  | some q =>
    obtain ⟨n, r⟩ := q
    simp only
    split
    · rename_i h
      simp only
      rcases fitN_iff.1 h.2 with ⟨_, _, _, h4, h5⟩ | ⟨_, _, h4, h5⟩ | ⟨_, _, h4, h5⟩
      · rw [h4, h5]; simp
      · rw [h4]; exact ⟨by have := h5.len; omega, by simp⟩
      · rw [h4]; exact ⟨by simp, by have := h5.len; omega⟩
    · simp [zNod]

set_option maxHeartbeats 4000000 in
set_option maxRecDepth 100000 in
theorem awake11_walk (w : World) (hT : ErrT w) :
    Calls Tryd.prog 4 #[] w fun e w' => e = .returned (.bool true) ∧ Below w.heap.size w w' := by
  have CR := pread11_walk [3, 0] w hT (by simp)
  unfold ReadPost at CR
  rw [read30] at CR
  clear hT
  go_enter Tryd.func4, Tryd.ntmps4
  go_wp2_with fail
  refine CR.mono ?_
  rintro e w1 ⟨vp, ve, rfl, hrow, hb1⟩
  obtain ⟨va, vc, rfl⟩ := row_slice hrow.parts
  obtain ⟨ua, uc, rfl⟩ := row_slice hrow.ents
  simp only [List.length_nil] at *
  obtain ⟨w2, hw2, hz2, hB2⟩ : ∃ w2, w2 = w1.alloc (.cells #[.int .i64 3, S [], .slice va 0 vc, .slice ua 0 uc] 26) ∧ w2.heap[w1.heap.size]? = some (.cells #[.int .i64 3, S [], .slice va 0 vc, .slice ua 0 uc] 26 (0, 0)) ∧ Below w.heap.size w w2 :=
    ⟨_, rfl, heap_alloc_new _ _, hb1.alloc hb1.size _⟩
  clear CR hrow hb1
  go_upto_region 2 with fail
  rw [← hw2]
  clear hw2
  have C1 := pwr_one w2
  go_wp2_with fail
  refine C1.mono ?_
  rintro e w3 ⟨rfl, hb3⟩
  have hz3 := (hb3.block _ (heap_lt hz2)).trans hz2
  have hB3 := below_chain hB2 hb3 hB2.size
  have C2 := pwr_two w3
  clear C1 hz2 hB2 hb3
  go_wp2_with fail
  refine C2.mono ?_
  rintro e w4 ⟨rfl, hb4⟩
  obtain ⟨⟨z0, z1, z2, z3⟩, -, -⟩ := box4 ((hb4.block _ (heap_lt hz3)).trans hz3)
  have hB4 := below_chain hB3 hb4 hB3.size
  clear C2 hz3 hB3 hb4
  go_wp2
  go_ret
  exact ⟨rfl, hB4⟩

set_option maxHeartbeats 4000000 in
set_option maxRecDepth 100000 in
theorem nreads_walk (s : List UInt8) (w : World) (hT : ErrT w) :
    Calls Tryd.prog 3 #[S s] w fun e w' => e = .returned (.bool true) ∧ Below w.heap.size w w' := by
  by_cases h5 : 5000 < s.length
  · have h5' : (5000 : Int) < (s.length : Int) := by omega
    have CA := awake11_walk w hT
    clear hT h5
    go_enter Tryd.func3, Tryd.ntmps3
    go_wp2_with fail
    refine CA.mono ?_
    rintro e w1 ⟨rfl, hb1⟩
    go_wp2
    go_ret
    exact ⟨rfl, hb1⟩
  have h5' : ¬ (5000 : Int) < (s.length : Int) := by omega
  have HT := Lib.hid hT
  have CP := pread11_walk s w hT (by omega)
  have CQ := fun W => rread11_walk s W (by omega)
  have HSM := Lib.hid (show (readN s).1.parts.length ≤ 1100000 ∧ (readN s).1.ents.length ≤ 1100000 from readN_small s)
  unfold ReadPost at CP CQ
  generalize readN s = rn at *
  obtain ⟨n, er⟩ := rn
  simp only at CP CQ HSM
  clear hT h5
  go_enter Tryd.func3, Tryd.ntmps3
  go_wp2_with fail
  refine CP.mono ?_
  rintro e w1 ⟨vp, ve, rfl, hrow, hb1⟩
  obtain ⟨va, vc, rfl⟩ := row_slice hrow.parts
  obtain ⟨ua, uc, rfl⟩ := row_slice hrow.ents
  obtain ⟨w2, hw2, hz2, hr2, hB2⟩ : ∃ w2, w2 = w1.alloc (.cells #[.int .i64 n.kind, S n.data, .slice va n.parts.length vc, .slice ua n.ents.length uc] 26) ∧ w2.heap[w1.heap.size]? = some (.cells #[.int .i64 n.kind, S n.data, .slice va n.parts.length vc, .slice ua n.ents.length uc] 26 (0, 0)) ∧ Hid (NodRow w2 n (.slice va n.parts.length vc) (.slice ua n.ents.length uc)) ∧ Below w.heap.size w w2 :=
    ⟨_, rfl, heap_alloc_new _ _, Lib.hid (hrow.below ((Below.refl _ _).alloc (Nat.le_refl _) _)), hb1.alloc hb1.size _⟩
  clear CP hrow hb1
  go_upto_region 4 with fail
  rw [← hw2]
  clear hw2
  go_wp2_with fail
  refine (CQ w2).mono ?_
  rintro e w3 ⟨vp', ve', rfl, hrow3, hb3⟩
  obtain ⟨va', vc', rfl⟩ := row_slice hrow3.parts
  obtain ⟨ua', uc', rfl⟩ := row_slice hrow3.ents
  have hz3 := (hb3.block _ (heap_lt hz2)).trans hz2
  have hr3 := hr2.out.below hb3
  have hB3 := below_chain hB2 hb3 hB2.size
  obtain ⟨w4, hw4, hz4, hx4, hr4, hr4', hB4⟩ : ∃ w4, w4 = w3.alloc (.cells #[.int .i64 n.kind, S n.data, .slice va' n.parts.length vc', .slice ua' n.ents.length uc'] 26) ∧ w4.heap[w3.heap.size]? = some (.cells #[.int .i64 n.kind, S n.data, .slice va' n.parts.length vc', .slice ua' n.ents.length uc'] 26 (0, 0)) ∧ w4.heap[w1.heap.size]? = some (.cells #[.int .i64 n.kind, S n.data, .slice va n.parts.length vc, .slice ua n.ents.length uc] 26 (0, 0)) ∧ NodRow w4 n (.slice va n.parts.length vc) (.slice ua n.ents.length uc) ∧ NodRow w4 n (.slice va' n.parts.length vc') (.slice ua' n.ents.length uc') ∧ Below w.heap.size w w4 :=
    ⟨_, rfl, heap_alloc_new _ _, (((Below.refl _ _).alloc (Nat.le_refl _) _).block _ (heap_lt hz3)).trans hz3, hr3.below ((Below.refl _ _).alloc (Nat.le_refl _) _), hrow3.below ((Below.refl _ _).alloc (Nat.le_refl _) _), hB3.alloc hB3.size _⟩
  have CS := rsame11_walk _ _ _ _ n n w4 hr4 hr4' HSM.out.1 HSM.out.2 HSM.out.1 HSM.out.2
  rw [sameN_yes rfl] at CS
  obtain ⟨⟨z0, z1, z2, z3⟩, -, -⟩ := box4 hx4
  obtain ⟨⟨y0, y1, y2, y3⟩, -, -⟩ := box4 hz4
  clear CQ hz2 hr2 hB2 hb3 hz3 hr3 hrow3 hB3 hr4 hr4' hz4 hx4
  go_upto_region 5 with fail
  rw [← hw4]
  clear hw4
  go_wp2_with fail
  refine CS.mono ?_
  rintro e w5 ⟨rfl, hb5⟩
  have hB5 := below_chain hB4 hb5 hB4.size
  have CA := awake11_walk w5 (HT.out.below hB5)
  clear CS hB4 hb5
  go_wp2_with fail
  refine CA.mono ?_
  rintro e w6 ⟨rfl, hb6⟩
  go_wp2
  go_ret
  exact ⟨rfl, below_chain hB5 hb6 hB5.size⟩
end Go.Proofs.YtnnjgokaabaaoaaDoor
