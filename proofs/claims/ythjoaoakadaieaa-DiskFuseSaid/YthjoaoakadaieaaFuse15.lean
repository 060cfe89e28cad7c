/- DiskFuse: acts that could be done are as many as the power lasts for. -/
import Derived.Test.YthjoaoakadaieaaAwake15
namespace Go.Proofs.Ythjoaoakadaieaa
open Go.RowKit

def opsF (k : Nat) : List Opn := (List.range k).map fun (i : Nat) => (((i : Int), [120]) : Opn)
/-- The disk behind t acts, of which N can be done. -/
def stF (N t : Nat) : LD := (if min t N = 0 then [] else [([102], [], opsF (min t N))], decide (N < t), if t ≤ N then ((N - t : Nat) : Int) else -1)
theorem opsF_succ (k : Nat) : opsF (k + 1) = opsF k ++ [((k : Int), [120])] := by unfold opsF; rw [List.range_succ, List.map_append]; rfl
theorem opsF_len (k : Nat) : (opsF k).length = k := by simp [opsF]
theorem opsF_ok {k : Nat} (hk : k ≤ 100) : ∀ o ∈ opsF k, badO o = false := by
  intro o ho
  obtain ⟨i, hi, rfl⟩ := List.mem_map.1 ho
  rw [List.mem_range] at hi
  rw [badO_iff]
  exact ⟨by simp, by simp; omega, by simp, by simp; omega⟩
theorem seenF_len : ∀ k, (seenL [] (opsF k)).length = k
  | 0 => rfl
  | k + 1 => by
    rw [opsF_succ]
    unfold seenL
    rw [List.foldl_append]
    show (layO (seenL [] (opsF k)) ((k : Int), [120])).length = k + 1
    unfold layO
    rw [layD_len, seenF_len k]
    simp
theorem fileF_ok {k : Nat} (hk : k ≤ 100) : badF ([102], [], opsF k) = false := by
  rw [badF_iff]
  exact ⟨show nameB [102] = true by decide, by rw [opsF_len]; omega, by simp, opsF_ok hk⟩
theorem stF_fit {N t : Nat} (hN : N ≤ 29) : fitD (stF N t) = true := by
  have hb : headBad (stF N t).1.length (stF N t).2.1 (stF N t).2.2 = false := by
    unfold stF headBad
    simp only
    by_cases h1 : t ≤ N
    · have : ¬ N < t := by omega
      rw [if_pos h1]
      split <;> simp [this] <;> omega
    · rw [if_neg h1]
      split <;> simp
  have h2 : upN ((stF N t).1.map (·.1)) = true := by unfold stF; simp only; split <;> rfl
  have h3 : (stF N t).1.any badF = false := by
    unfold stF; simp only
    split
    · rfl
    · simp [fileF_ok (show min t N ≤ 100 by omega)]
  unfold fitD
  rw [hb, h2, h3]; rfl
theorem stF_read {N t : Nat} : (readD (stF N t) [102]).1.length = min t N := by
  unfold readD findF stF
  simp only
  split
  · rename_i f hf
    split at hf
    · simp at hf
    · simp at hf
      subst hf
      exact seenF_len _
  · rename_i hf
    split at hf
    · rename_i h; rw [h]; rfl
    · simp at hf
theorem stF_step {N t : Nat} (hN : N ≤ 29) : writeD (stF N t) [102] (min t N : Nat) [120] = (stF N (t + 1), if t < N then 0 else 13) := by
  unfold writeD actD
  by_cases h1 : N < t
  · have e1 : (stF N t).2.1 = true := by simp [stF, h1]
    rw [if_pos e1, if_neg (by omega)]
    have : stF N t = stF N (t + 1) := by
      unfold stF
      rw [if_neg (by omega : ¬ t ≤ N), if_neg (by omega : ¬ t + 1 ≤ N), show min t N = min (t + 1) N by omega]
      simp [h1]; omega
    rw [← this]
  · have e1 : ¬ (stF N t).2.1 = true := by simp [stF]; omega
    rw [if_neg e1]
    have e2 : wrongW (stF N t) [102] (min t N : Nat) [120] = 0 := by
      unfold wrongW
      rw [if_neg (by decide), if_neg (by simp; omega), if_neg]
      rintro (⟨_, h⟩ | ⟨_, h⟩)
      · unfold stF at h; simp only at h; split at h <;> simp at h
      · unfold fileOf findF stF at h
        simp only at h
        split at h
        · simp at h
        · simp [opsF_len] at h; omega
    rw [e2, if_neg (by simp)]
    by_cases h2 : t = N
    · subst h2
      rw [if_pos (by simp [stF]), if_neg (by omega)]
      unfold stF
      rw [if_neg (by omega : ¬ t + 1 ≤ t), show min (t + 1) t = min t t by omega]
      simp
    · have h3 : t < N := by omega
      have e3 : (stF N t).2.2 = ((N - t : Nat) : Int) := by simp [stF]; omega
      rw [if_neg (by rw [e3]; omega), if_pos h3]
      have e4 : withF (stF N t).1 (putOps (fileOf (stF N t) [102]) (min t N : Nat) [120]) = (stF N (t + 1)).1 := by
        have hm : min t N = t := by omega
        have hm1 : min (t + 1) N = t + 1 := by omega
        unfold stF fileOf findF putOps withF withK
        simp only [hm, hm1]
        by_cases ht : t = 0
        · subst ht; simp [opsF]
        · rw [if_neg ht, if_neg (show ¬ t + 1 = 0 by omega)]
          simp [opsF_succ, List.lt_irrefl]
      rw [e4, e3]
      unfold stF
      simp only
      rw [if_pos (by omega : t + 1 ≤ N), if_pos (show (0 : Int) < ((N - t : Nat) : Int) by omega)]
      have : decide (N < t) = decide (N < t + 1) := by simp; omega
      rw [this]
      congr 3
      omega

theorem filesz_alloc {Z : Nat → Prop} {w : World} {v : Value} {l : List DF} (h : FilesZ Z w v l) (X : Obj) : FilesZ Z (w.alloc X) v l := fun W' hW =>
  h W' (fun k h1 h2 => (hW k (by rw [World.size_alloc]; omega) h2).trans (Below.heap_alloc _ _ _ h1))
/-- Where the round t stands: the box of d. -/
def FSt (w wr : World) (N t : Nat) : Prop :=
  ∃ a c, ∃ l : List DF, ∃ off fuse, wr.heap[w.heap.size]? = some (DCells (.slice a l.length c) off fuse) ∧ (los l, off, fuse) = stF N t ∧ FilesZ (fun k => k = w.heap.size) wr (.slice a l.length c) l ∧ Below w.heap.size w wr

set_option maxHeartbeats 8000000 in
set_option maxRecDepth 100000 in
theorem fuse_walk (n acts : Nat) (w : World) (hn : n < 256) (ha : acts < 256) : Calls Try.prog 7 #[.int .u8 n, .int .u8 acts] w fun e w' => e = .returned (.bool true) ∧ Below w.heap.size w w' := by
  have m1 : (n : Int) % 30 = ((n % 30 : Nat) : Int) := by omega
  have m2 : (acts : Int) % 60 = ((acts % 60 : Nat) : Int) := by omega
  have hN : n % 30 ≤ 29 := by omega
  have hA : acts % 60 ≤ 59 := by omega
  generalize n % 30 = N at *
  generalize acts % 60 = A at *
  have hB1 : Below w.heap.size w (w.alloc (DCells (.slice none 0 0) false N)) := (Below.refl _ _).alloc (Nat.le_refl _) _
  have hst : FSt w (w.alloc (DCells (.slice none 0 0) false N)) N 0 :=
    ⟨none, 0, [], false, N, heap_alloc_new w _, by simp [stF, los], filesz_box ⟨Row.nil _ _, by simp⟩ _, hB1⟩
  go_enter Try.func7, Try.ntmps7
  go_wp2
  simp only [m1, m2]
  go_loopw [6, 18] (fun d i wr => ∃ t : Nat, t ≤ A ∧ i = .int .u8 t ∧ d = .int .i64 (min t N : Nat) ∧ FSt w wr N t) (fun _ i _ => A - (intOf i).toNat)
  case atStart => exact ⟨0, by omega, rfl, by simp, hst⟩
  case round =>
    obtain ⟨t, ht, rfl, rfl, a, c, l, off, fuse, hx, hl, hz, hB⟩ := hrel
    have F := fit_get (l := l) (off := off) (fuse := fuse) (by rw [hl]; exact stF_fit hN)
    have y0 := heap_cell hx (j := 0) (v := .slice a l.length c) rfl
    have y1 := heap_cell hx (j := 1) (v := .bool off) rfl
    have y2 := heap_cell hx (j := 2) (v := .int .i64 fuse) rfl
    have hzb : w.heap.size < wr.heap.size := heap_lt hx
    by_cases h1 : t < A
    · have h1' : (t : Int) < (A : Int) := by omega
      have C := pwrite15_walk (fun k => k = w.heap.size) (.slice a l.length c) off fuse l [102] (min t N : Nat) [120] wr (fun k h => by omega) hz (by have := F.len; omega) F.up F.f1 F.f2 (by simp) (by simp) F.opsl
      rw [hl, stF_step hN] at C
      go_wp2_with fail
      refine C.mono ?_
      rintro e w1 ⟨v1, o1, f1, l1, e1, rfl, hr1, hres1, hb1⟩
      clear C
      obtain ⟨hl1, he1⟩ := Prod.mk.inj hres1
      obtain ⟨⟨a1, c1, rfl, _⟩, _⟩ := hr1.here
      have hx1 := (hb1.block w.heap.size hzb).trans hx
      have hx1' : (w1.alloc (DCells (.slice a1 l1.length c1) o1 f1)).heap[w.heap.size]? = _ := (Below.heap_alloc _ _ _ (heap_lt hx1)).trans hx1
      have g0 := heap_free hx1' 0
      have g1 := heap_free hx1' 1
      have g2 := heap_free hx1' 2
      have q0 := heap_cell hx1' (j := 0) (v := .slice a l.length c) rfl
      have q1 := heap_cell hx1' (j := 1) (v := .bool off) rfl
      have q2 := heap_cell hx1' (j := 2) (v := .int .i64 fuse) rfl
      have hr1' := filesz_alloc hr1 (DCells (.slice a1 l1.length c1) o1 f1)
      have hB1' := (below_chain hB hb1 hB.size).alloc (by have := hb1.size; omega) (DCells (.slice a1 l1.length c1) o1 f1)
      obtain ⟨w2, hw2⟩ : ∃ W, W = ((((w1.alloc (DCells (.slice a1 l1.length c1) o1 f1)).setCell ⟨w.heap.size, 0, none⟩ (.slice a1 l1.length c1)).setCell ⟨w.heap.size, 1, none⟩ (.bool o1)).setCell ⟨w.heap.size, 2, none⟩ (.int .i64 f1)) := ⟨_, rfl⟩
      have hx2 : w2.heap[w.heap.size]? = some (DCells (.slice a1 l1.length c1) o1 f1) := by rw [hw2]; exact dbox_store hx1'
      have hst2 : FSt w w2 N (t + 1) := ⟨a1, c1, l1, o1, f1, hx2, hl1.symm, by rw [hw2]; exact filesz_store hr1' set3_size set3_other, by rw [hw2]; exact below_setC (below_setC (below_setC hB1' (Nat.le_refl _) 0 _) (Nat.le_refl _) 1 _) (Nat.le_refl _) 2 _⟩
      have HST := Lib.hid hst2
      clear hst2 hr1 hr1' hres1 hz hB1' hb1
      by_cases h2 : t < N
      · obtain rfl : e1 = 0 := by rw [← he1, if_pos h2]
        go_wp2_with fail
        rw [← hw2]
        go_wp2
        go_roundw
        case rel =>
          have hm : min (t + 1) N = min t N + 1 := by omega
          exact ⟨t + 1, by omega, by go_num, by rw [hm]; go_num, HST.out⟩
        case measure => simp [intOf]; omega
      · obtain rfl : e1 = 13 := by rw [← he1, if_neg h2]
        have hoff : o1 = true := by
          have := congrArg (fun d : LD => d.2.1) hl1
          simp only [stF] at this
          rw [← this, decide_eq_true_eq]; omega
        subst hoff
        have z1 := heap_cell hx2 (j := 1) (v := .bool true) rfl
        go_wp2_with fail
        rw [← hw2]
        go_wp2
        go_roundw
        case rel =>
          have hm : min (t + 1) N = min t N := by omega
          exact ⟨t + 1, by omega, by go_num, by rw [hm], HST.out⟩
        case measure => simp [intOf]; omega
    · have h1' : ¬ (t : Int) < (A : Int) := by omega
      obtain rfl : t = A := by omega
      have C := pread15_walk (.slice a l.length c) off fuse l [102] wr hz.here (by have := F.len; omega) F.up F.ok
      rw [hl] at C
      have hlen := stF_read (N := N) (t := t)
      go_wp2_with fail
      refine C.mono ?_
      rintro e w6 ⟨rfl, hb6⟩
      have hx6 := (hb6.block w.heap.size hzb).trans hx
      have p0 := heap_cell hx6 (j := 0) (v := .slice a l.length c) rfl
      have p1 := heap_cell hx6 (j := 1) (v := .bool off) rfl
      have p2 := heap_cell hx6 (j := 2) (v := .int .i64 fuse) rfl
      have hr6 := hz.here.below hb6
      have hB6 := below_chain hB hb6 hB.size
      have C6 := pcrash_walk (.slice a l.length c) (.slice none 0 0) off fuse l [] w6 hr6 (Row.nil _ _) (by have := F.len; omega) (by simp) F.ok
      clear C
      generalize readD (stF N t) [102] = rd at *
      obtain ⟨rs, rb⟩ := rd
      simp only at hlen
      go_wp2_with fail
      refine C6.mono ?_
      rintro e w7 ⟨v7, l7, rfl, hr7, h7, hb7⟩
      obtain ⟨⟨a7, c7, rfl, _⟩, _⟩ := hr7
      have hB7 := below_chain hB6 hb7 hB6.size
      have hx7 := heap_alloc_new w7 (DCells (.slice a7 l7.length c7) false (-1))
      have r1 := heap_cell hx7 (j := 1) (v := .bool false) rfl
      have r2 := heap_cell hx7 (j := 2) (v := .int .i64 (-1)) rfl
      have hB8 := hB7.alloc hB7.size (DCells (.slice a7 l7.length c7) false (-1))
      have CA := awake15_walk (w7.alloc (DCells (.slice a7 l7.length c7) false (-1)))
      clear C6
      go_wp2_with fail
      refine CA.mono ?_
      rintro e w8 ⟨rfl, hb8⟩
      have hB9 := below_chain hB8 hb8 hB8.size
      go_wp2
      go_ret
      exact ⟨rfl, hB9⟩
end Go.Proofs.Ythjoaoakadaieaa
