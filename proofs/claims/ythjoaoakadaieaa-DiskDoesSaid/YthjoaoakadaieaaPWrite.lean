/- The program's Write. -/
import Derived.Test.YthjoaoakadaieaaPWr1
import Derived.Test.YthjoaoakadaieaaPRd15
import Derived.Test.YthjoaoakadaieaaAny
namespace Go.Proofs.Ythjoaoakadaieaa
open Go.RowKit

/-- What a call on a disk comes to. -/
def DiskPost (Z : Nat → Prop) (res : LD × Int) (w : World) (e : Ending) (w' : World) : Prop :=
  ∃ v' off' fuse' l' err, e = .returned (.tuple #[DiskV v' off' fuse', .int .i64 err]) ∧ FilesZ Z w' v' l' ∧ res = ((los l', off', fuse'), err) ∧ Below w.heap.size w w'

theorem wrong_cases (d : LD) (n : List UInt8) (k : Int) (s : List UInt8) :
    (nameB n = false ∧ wrongW d n k s = 7) ∨ (nameB n = true ∧ k < 0 ∧ wrongW d n k s = 4) ∨ (nameB n = true ∧ ¬ k < 0 ∧ 262144 < k ∧ wrongW d n k s = 4) ∨ (nameB n = true ∧ ¬ k < 0 ∧ ¬ 262144 < k ∧ 262144 - k < (s.length : Int) ∧ wrongW d n k s = 4) ∨
    (nameB n = true ∧ ¬ k < 0 ∧ ¬ 262144 < k ∧ ¬ 262144 - k < (s.length : Int) ∧
      (((findF d.1 n).isNone = true ∧ 8 ≤ d.1.length ∧ wrongW d n k s = 9) ∨
       (¬ ((findF d.1 n).isNone = true ∧ 8 ≤ d.1.length) ∧ ((s ≠ [] ∧ 200 ≤ (fileOf d n).2.2.length ∧ wrongW d n k s = 9) ∨ (s ≠ [] ∧ ¬ 200 ≤ (fileOf d n).2.2.length ∧ wrongW d n k s = 0) ∨ (s = [] ∧ wrongW d n k s = 0))))) := by
  unfold wrongW
  by_cases h1 : nameB n = false
  · exact .inl ⟨h1, if_pos h1⟩
  have h1' : nameB n = true := by simpa using h1
  rw [if_neg h1]
  by_cases h2 : k < 0
  · exact .inr (.inl ⟨h1', h2, if_pos (.inl h2)⟩)
  by_cases h3 : 262144 < k
  · exact .inr (.inr (.inl ⟨h1', h2, h3, if_pos (.inr (.inl h3))⟩))
  by_cases h4 : 262144 - k < (s.length : Int)
  · exact .inr (.inr (.inr (.inl ⟨h1', h2, h3, h4, if_pos (.inr (.inr h4))⟩)))
  rw [if_neg (by simp [h2, h3, h4])]
  refine .inr (.inr (.inr (.inr ⟨h1', h2, h3, h4, ?_⟩)))
  by_cases h5 : (findF d.1 n).isNone = true ∧ 8 ≤ d.1.length
  · exact .inl ⟨h5.1, h5.2, if_pos (.inl h5)⟩
  refine .inr ⟨h5, ?_⟩
  by_cases h6 : s = []
  · exact .inr (.inr ⟨h6, if_neg (by simp only [h5, h6]; simp)⟩)
  by_cases h7 : 200 ≤ (fileOf d n).2.2.length
  · exact .inl ⟨h6, h7, if_pos (.inr ⟨h6, h7⟩)⟩
  · exact .inr (.inl ⟨h6, h7, if_neg (by simp only [h5, h6, h7]; simp)⟩)

set_option maxHeartbeats 8000000 in
set_option maxRecDepth 100000 in
theorem pwrite15_walk (Z : Nat → Prop) (v : Value) (off : Bool) (fuse : Int) (l : List DF) (n : List UInt8) (k : Int) (s : List UInt8) (w : World) (hZ : ∀ k, Z k → k < w.heap.size) (hzf : FilesZ Z w v l) (hcnt : l.length ≤ 1000) (hup : upS (l.map DF.name)) (hf1 : -1 ≤ fuse) (hf2 : fuse ≤ 1048576) (hn : n.length ≤ 1000000) (hs : s.length ≤ 1000000) (hol : ∀ x ∈ l, x.ops.length ≤ 1000) :
    Calls Try.prog 24 #[DiskV v off fuse, S n, .int .i64 k, S s] w (DiskPost Z (writeD (los l, off, fuse) n k s) w) := by
  have HZF := Lib.hid hzf
  have HZ := Lib.hid hZ
  have HOPZ := Lib.hid hzf.ops
  have hr := hzf.here
  clear hzf hZ
  have hrv := hr
  obtain ⟨⟨a, c, rfl, hc, hcm, hx⟩, hops⟩ := hrv
  have HW := Lib.hid (show writeD (los l, off, fuse) n k s = actD (los l, off, fuse) (wrongW (los l, off, fuse) n k s) (withF (los l) (putOps (fileOf (los l, off, fuse) n) k s)) from rfl)
  have hcs := wrong_cases (los l, off, fuse) n k s
  generalize writeD (los l, off, fuse) n k s = res at *
  generalize wrongW (los l, off, fuse) n k s = wr at *
  -- the blocks that are laid
  obtain ⟨A0, hA0⟩ : ∃ A, A = w.alloc (.cells #[.slice a l.length c, .bool off, .int .i64 fuse] 35) := ⟨_, rfl⟩
  obtain ⟨A1, hA1⟩ : ∃ A, A = A0.alloc (.cells #[.int .i64 k] 3) := ⟨_, rfl⟩
  obtain ⟨A2, hA2⟩ : ∃ A, A = A1.alloc (.cells #[S s] 9) := ⟨_, rfl⟩
  obtain ⟨A3, hA3⟩ : ∃ A, A = A2.alloc (.cells #[.slice none 0 0, .bool false, .int .i64 0] 35) := ⟨_, rfl⟩
  obtain ⟨A4, hA4⟩ : ∃ A, A = A3.alloc (.cells #[.slice a l.length c, .bool off, .int .i64 fuse] 78) := ⟨_, rfl⟩
  obtain ⟨A5, hA5⟩ : ∃ A, A = A4.alloc (.cells #[.pointer (some ⟨w.heap.size + 1 + 1 + 1 + 1, 0, none⟩)] 76) := ⟨_, rfl⟩
  obtain ⟨A6, hA6⟩ : ∃ A, A = A5.alloc (.cells #[S n, .string ⟨#[]⟩, .slice none 0 0] 50) := ⟨_, rfl⟩
  have z0 : A0.heap.size = w.heap.size + 1 := by rw [hA0]; simp
  have z1 : A1.heap.size = w.heap.size + 1 + 1 := by rw [hA1, World.size_alloc, z0]
  have z2 : A2.heap.size = w.heap.size + 1 + 1 + 1 := by rw [hA2, World.size_alloc, z1]
  have z3 : A3.heap.size = w.heap.size + 1 + 1 + 1 + 1 := by rw [hA3, World.size_alloc, z2]
  have z4 : A4.heap.size = w.heap.size + 1 + 1 + 1 + 1 + 1 := by rw [hA4, World.size_alloc, z3]
  have z5 : A5.heap.size = w.heap.size + 1 + 1 + 1 + 1 + 1 + 1 := by rw [hA5, World.size_alloc, z4]
  have z6 : A6.heap.size = w.heap.size + 1 + 1 + 1 + 1 + 1 + 1 + 1 := by rw [hA6, World.size_alloc, z5]
  have hB6 : Below w.heap.size w A6 := by
    rw [hA6, hA5, hA4, hA3, hA2, hA1, hA0]
    exact ((((((Below.refl _ w).alloc (Nat.le_refl _) _).alloc (by simp) _).alloc (by simp; omega) _).alloc (by simp; omega) _).alloc (by simp; omega) _).alloc (by simp; omega) _ |>.alloc (by simp; omega) _
  go_enter Try.func24, Try.ntmps24
  go_wp2_with fail
  rw [← hA0, ← hA1, ← hA2, ← hA3, ← hA4, ← hA5, ← hA6]
  have m1 : A6.heap[w.heap.size + 1]? = some (.cells #[.int .i64 k] 3 (0, 0)) := by rw [hA6, hA5, hA4, hA3, hA2]; exact heap_old (heap_old (heap_old (heap_old (heap_old (by rw [hA1]; exact heap_new' z0.symm _)))))
  have m2 : A6.heap[w.heap.size + 1 + 1]? = some (.cells #[S s] 9 (0, 0)) := by rw [hA6, hA5, hA4, hA3]; exact heap_old (heap_old (heap_old (heap_old (by rw [hA2]; exact heap_new' z1.symm _))))
  have m3 : A6.heap[w.heap.size + 1 + 1 + 1]? = some (.cells #[.slice none 0 0, .bool false, .int .i64 0] 35 (0, 0)) := by rw [hA6, hA5, hA4]; exact heap_old (heap_old (heap_old (by rw [hA3]; exact heap_new' z2.symm _)))
  have m4 : MBox A6 (w.heap.size + 1 + 1 + 1 + 1) (.slice a l.length c) off fuse := by rw [hA6, hA5]; exact heap_old (heap_old (by rw [hA4]; exact heap_new' z3.symm _))
  have m5 : A6.heap[w.heap.size + 1 + 1 + 1 + 1 + 1]? = some (.cells #[.pointer (some ⟨w.heap.size + 1 + 1 + 1 + 1, 0, none⟩)] 76 (0, 0)) := by rw [hA6]; exact heap_old (by rw [hA5]; exact heap_new' z4.symm _)
  have m6 : A6.heap[w.heap.size + 1 + 1 + 1 + 1 + 1 + 1]? = some (.cells #[S n, .string ⟨#[]⟩, .slice none 0 0] 50 (0, 0)) := by rw [hA6]; exact heap_new' z5.symm _
  have m0 : A6.heap[w.heap.size]? = some (.cells #[.slice a l.length c, .bool off, .int .i64 fuse] 35 (0, 0)) := by rw [hA6, hA5, hA4, hA3, hA2, hA1]; exact heap_old (heap_old (heap_old (heap_old (heap_old (heap_old (by rw [hA0]; exact heap_alloc_new w _))))))
  clear hA0 hA1 hA2 hA3 hA4 hA5 hA6 z0 z1 z2 z3 z4 z5
  generalize hb6 : w.heap.size + 1 + 1 + 1 + 1 + 1 + 1 = b6 at *
  generalize hb5 : w.heap.size + 1 + 1 + 1 + 1 + 1 = b5 at *
  generalize hb4 : w.heap.size + 1 + 1 + 1 + 1 = b4 at *
  generalize hb3 : w.heap.size + 1 + 1 + 1 = b3 at *
  generalize hb2 : w.heap.size + 1 + 1 = b2 at *
  generalize hb1 : w.heap.size + 1 = b1 at *
  generalize hb0 : w.heap.size = b0 at *
  have C := pmat_walk b4 (.slice a l.length c) off fuse l n A6 m4 (hr.1.keep (fun i hi => hB6.block i (by omega))) (by omega) hup
  have HCS := Lib.hid hcs
  have HUP := Lib.hid hup
  have HOPS := Lib.hid hops
  have HRV := Lib.hid hr
  clear hcs hops hr
  by_cases hin : n ∈ l.map DF.name
  · obtain ⟨hk, hnm, hf⟩ := findF_in hup hin
    rw [show decide (n ∈ l.map DF.name) = true by simpa using hin] at C
    have hfo0 : fileOf (los l, off, fuse) n = l[posL (l.map DF.name) n].lo := by unfold fileOf; rw [hf]; rfl
    generalize posL (l.map DF.name) n = kk at *
    have hk' : (kk : Int) < (l.length : Int) := by omega
    rcases hx with hx | ⟨bx, ox, rfl, hx⟩
    · exfalso; rw [hx] at hk; simp at hk
    obtain ⟨hx1, hx2, hx3⟩ := df_cells hx hk
    have hopr0 := HOPS.out l[kk] (by simp)
    have hoprz := HOPZ.out l[kk] (by simp)
    have hosl0 := hol l[kk] (by simp)
    clear hx hin hnm hup hol
    have HF1 := Lib.hid hf
    clear hf
    generalize l[kk] = y at *
    obtain ⟨nm, dt, ov, os⟩ := y
    simp only at hx1 hx2 hx3 hopr0 hosl0
    have hopr : OpsZ Z w ⟨nm, dt, ov, os⟩ := hoprz
    have hosl : os.length ≤ 1000 := hosl0
    have hfo : fileOf (los l, off, fuse) n = (nm, dt, os) := hfo0
    refine C.mono ?_
    rintro e w1 ⟨rfl, hbw⟩
    have hBW1 : Below b0 w w1 := hB6.trans (hbw.mono (by omega))
    have k0 := box_kept hbw (heap_lt m0) m0
    have k1 := box_kept hbw (heap_lt m1) m1
    have k2 := box_kept hbw (heap_lt m2) m2
    have k3 := box_kept hbw (heap_lt m3) m3
    have k4 : MBox w1 b4 _ off fuse := box_kept hbw (heap_lt m4) m4
    have k5 := box_kept hbw (heap_lt m5) m5
    have k6 := box_kept hbw (heap_lt m6) m6
    have e0 := heap_cell k0 (j := 0) (v := .slice (some ⟨bx, ox, none⟩) l.length c) rfl
    have e1 := cell_keep (fun i hi => hBW1.block i hi) (by omega) hx1
    have e2 := cell_keep (fun i hi => hBW1.block i hi) (by omega) hx2
    have e3 := cell_keep (fun i hi => hBW1.block i hi) (by omega) hx3
    have t0 := heap_cell k6 (j := 0) (v := S n) rfl
    have t1 := heap_cell k6 (j := 1) (v := .string ⟨#[]⟩) rfl
    have t2 := heap_cell k6 (j := 2) (v := .slice none 0 0) rfl
    have u0 := heap_free k6 0
    have u1 := heap_free k6 1
    have u2 := heap_free k6 2
    obtain ⟨xa, xc, hxv, hxc, _⟩ := hopr0
    subst hxv
    clear hfo0 hosl0 C m0 m1 m2 m3 m4 m5 m6 hx1 hx2 hx3
    go_wp2_with fail
    obtain ⟨W2, hW2⟩ : ∃ W2, W2 = ((w1.setCell ⟨b6, 0, none⟩ (S nm)).setCell ⟨b6, 1, none⟩ (S dt)).setCell ⟨b6, 2, none⟩ (.slice xa os.length xc) := ⟨_, rfl⟩
    have hne : ∀ i, i ≠ b6 → W2.heap[i]? = w1.heap[i]? := fun i hi => by rw [hW2]; exact ((Below.heap_setCell _ _ _ _ hi).trans (Below.heap_setCell _ _ _ _ hi)).trans (Below.heap_setCell _ _ _ _ hi)
    have g6 : W2.heap[b6]? = some (.cells #[S nm, S dt, .slice xa os.length xc] 50 (0, 0)) := by
      have := heap_set_cell (o := 2) (heap_set_cell (o := 1) (heap_set_cell (o := 0) k6 (S nm)) (S dt)) (.slice xa os.length xc)
      rw [hW2]; simpa using this
    have hBW : Below b0 w W2 := by rw [hW2]; exact below_setC (below_setC (below_setC hBW1 (by omega) 0 _) (by omega) 1 _) (by omega) 2 _
    have g0 := (hne b0 (by omega)).trans k0
    have g1 := (hne b1 (by omega)).trans k1
    have g2 := (hne b2 (by omega)).trans k2
    have g3 := (hne b3 (by omega)).trans k3
    have g4 : MBox W2 b4 _ off fuse := (hne b4 (by omega)).trans k4
    have g5 := (hne b5 (by omega)).trans k5
    rw [← hW2]
    clear hW2 hne k0 k1 k2 k3 k4 k5 k6 e0 e1 e2 e3 t0 t1 t2 u0 u1 u2 hBW1 hbw
    have HFO := Lib.hid hfo
    have HOPR := Lib.hid hopr
    have HG := Lib.hid (And.intro g0 (And.intro g1 (And.intro g2 (And.intro g3 (And.intro g4 (And.intro g5 g6))))))
    have HB2 := Lib.hid hBW
    have CN := fun W => name_walk n W hn
    have HOC := Lib.hid (And.intro hxc hosl)
    clear hopr
    rcases HCS.out with ⟨q1, rfl⟩ | ⟨q1, q2, rfl⟩ | ⟨q1, q2, q3, rfl⟩ | ⟨q1, q2, q3, q4, rfl⟩ | ⟨q1, q2, q3, q4, (⟨q5, q6, rfl⟩ | ⟨q5, (⟨q6, q7, rfl⟩ | ⟨q6, q7, rfl⟩ | ⟨q6, rfl⟩)⟩)⟩
    all_goals try (exfalso; rw [HF1.out] at q5; simp at q5; done)
    all_goals
      rw [q1] at CN
      have HQ1 := Lib.hid q1
      clear q1
      try (have q7i : (200 : Int) ≤ (os.length : Int) := by (rw [HFO.out] at q7; simp only at q7; omega))
      try (have q7j : ¬ (200 : Int) ≤ (os.length : Int) := by (rw [HFO.out] at q7; simp only at q7; omega))
      try (have q6a : (s != []) = true := by (rw [bne_iff_ne]; exact q6))
      try (have q6b : s.isEmpty = false := by (cases s with | nil => exact absurd rfl q6 | cons => rfl))
      try (have q6c : (s != []) = false := by (rw [q6]; rfl))
      try (have q6d : s.isEmpty = true := by (rw [q6]; rfl))
      try (have hwr : IntKind.i64.wrap (262144 - k) = 262144 - k := by (rw [IntKind.wrap_i64]; omega))
      try clear q7
      try clear q5
      try clear q6
      refine (CN _).mono ?_
      rintro e w3 ⟨rfl, hbn⟩
      obtain ⟨g0, g1, g2, g3, g4, g5, g6⟩ := HG.out
      have hBN : Below b0 w w3 := HB2.out.trans (hbn.mono (by have := heap_lt g6; omega))
      have n0 := box_kept hbn (heap_lt g0) g0
      have n1 := box_kept hbn (heap_lt g1) g1
      have n2 := box_kept hbn (heap_lt g2) g2
      have n3 := box_kept hbn (heap_lt g3) g3
      have n4 : MBox w3 b4 (.slice (some ⟨bx, ox, none⟩) l.length c) off fuse := box_kept hbn (heap_lt g4) g4
      have n5 := box_kept hbn (heap_lt g5) g5
      have n6 := box_kept hbn (heap_lt g6) g6
      clear g0 g1 g2 g3 g4 g5 g6
      have c0 := heap_cell n0 (j := 0) (v := .slice (some ⟨bx, ox, none⟩) l.length c) rfl
      have c1 := heap_cell n1 (j := 0) (v := .int .i64 k) rfl
      have c2 := heap_cell n2 (j := 0) (v := S s) rfl
      have c5 := heap_cell n5 (j := 0) (v := .pointer (some ⟨b4, 0, none⟩)) rfl
      have c6 := heap_cell n6 (j := 2) (v := .slice xa os.length xc) rfl
      have hlt6 := heap_lt n6
      have CA := fun (wr : Int) => act_walk Z b4 (.slice (some ⟨bx, ox, none⟩) l.length c) off fuse l wr 48 #[.pointer (some ⟨b2, 0, none⟩), .pointer (some ⟨b6, 0, none⟩), .pointer (some ⟨b1, 0, none⟩), .pointer (some ⟨b5, 0, none⟩)] (withF (los l) (putOps (nm, dt, os) k s)) w w3 n4 HZF.out ⟨hBN.os, hBN.tape, hBN.output, hBN.size, fun i hi => hBN.block i (by omega)⟩ (by omega) (by omega) hf1 hf2 (enters_of Try.func48 (by kernel_rfl) rfl)
        (fun _ f' v1 W1 hm1 hown1 hsz1 hsame1 => write1_walk Z (w3.heap.size + 1) b4 b2 b6 b1 b5 w3.heap.size s nm dt (.slice xa os.length xc) os k v1 off f' l w W1
          { hs := (hsame1 b2 (by omega) (by omega)).trans n2, hf := (hsame1 b6 (by omega) (by omega)).trans n6, ha := (hsame1 b1 (by omega) (by omega)).trans n1, hp := (hsame1 b5 (by omega) (by omega)).trans n5, hm := hm1, hown := hown1,
            lt := ⟨by omega, by omega, by omega, by omega, by omega, by omega, hsz1, by omega, by omega, by omega, by omega, by omega, by omega, by omega⟩,
            hup := HUP.out, hcnt := hcnt, hops := HOPZ.out, hop := HOPR.out, old := fun i hi => (hsame1 i (by omega) (by omega)).trans (hBN.block i (by omega)), hol := HOC.out.2 })
      have HCA := Lib.hid CA
      have HN3 := Lib.hid n3
      have HBN := Lib.hid hBN
      clear CA n0 n1 n2 n4 n5 n6 n3 hbn
      go_wp2_with fail
      refine (HCA.out _).mono ?_
      rintro e w5 ⟨v', off', fuse', l', err, rfl, hfx, hact, hb5'⟩
      have hfr := hfx.here
      obtain ⟨a', c', hv', _⟩ := hfr.1
      subst hv'
      have r3 := box_kept hb5' (show b3 < b4 by omega) HN3.out
      have d0 := heap_cell r3 (j := 0) (v := .slice none 0 0) rfl
      have d1 := heap_cell r3 (j := 1) (v := .bool false) rfl
      have d2 := heap_cell r3 (j := 2) (v := .int .i64 0) rfl
      have s0 := is_some d0
      have s1 := is_some d1
      have s2 := is_some d2
      have f0 := heap_free r3 0
      have f1 := heap_free r3 1
      have f2 := heap_free r3 2
      have HFX := Lib.hid hfx
      have HACT := Lib.hid hact
      have HB5 := Lib.hid (HBN.out.trans (hb5'.mono (by omega)))
      clear hfx hact hfr r3 hb5'
      go_wp2
      refine bodyPost_ret (v := .tuple #[DiskV (.slice a' l'.length c') off' fuse', .int .i64 err]) (by simp [results, Try.results24, go_sem, s0, s1, s2]) rfl ?_
      have hz5 := HB5.out.size
      have hz3 := HBN.out.size
      refine ⟨_, _, _, l', err, rfl, filesx_z HFX.out (b3 := b3) (by rw [size_setCell', size_setCell', size_setCell']) (fun k hk => ((Below.heap_setCell _ _ _ _ hk).trans (Below.heap_setCell _ _ _ _ hk)).trans (Below.heap_setCell _ _ _ _ hk)) ⟨by omega, by omega⟩ (by rw [hb0]; exact HZ.out) (by omega) (by omega), by rw [HW.out, HFO.out]; exact HACT.out, ?_⟩
      · rw [hb0]
        exact below_setC (below_setC (below_setC HB5.out (by omega) 0 _) (by omega) 1 _) (by omega) 2 _
  · have hf := findF_out hin
    rw [show decide (n ∈ l.map DF.name) = false by simpa using hin] at C
    have hfo0 : fileOf (los l, off, fuse) n = (n, [], []) := by unfold fileOf; rw [hf]; rfl
    generalize posL (l.map DF.name) n = kk at *
    have HF1 := Lib.hid hf
    obtain ⟨os, hos⟩ : ∃ os : List Opn, os = [] := ⟨_, rfl⟩
    obtain ⟨dt, hdt⟩ : ∃ dt : List UInt8, dt = [] := ⟨_, rfl⟩
    obtain ⟨nm, hnm⟩ : ∃ nm : List UInt8, nm = n := ⟨_, rfl⟩
    have hopr : OpsZ Z w ⟨nm, dt, .slice none os.length 0, os⟩ := fun W _ => by
      show OpRow W (.slice none os.length 0) os
      rw [hos]; exact Row.nil _ _
    have hosl : os.length ≤ 1000 := by rw [hos]; simp
    have hxc : os.length ≤ 0 := by rw [hos]; simp
    have hfo : fileOf (los l, off, fuse) n = (nm, dt, os) := by rw [hos, hdt, hnm]; exact hfo0
    clear hx hin hup hol hf hfo0
    refine C.mono ?_
    rintro e w1 ⟨rfl, hbw⟩
    have hBW : Below b0 w w1 := hB6.trans (hbw.mono (by omega))
    have g0 := box_kept hbw (heap_lt m0) m0
    have g1 := box_kept hbw (heap_lt m1) m1
    have g2 := box_kept hbw (heap_lt m2) m2
    have g3 := box_kept hbw (heap_lt m3) m3
    have g4 : MBox w1 b4 _ off fuse := box_kept hbw (heap_lt m4) m4
    have g5 := box_kept hbw (heap_lt m5) m5
    have k6 := box_kept hbw (heap_lt m6) m6
    have g6 : w1.heap[b6]? = some (.cells #[S nm, S dt, .slice none os.length 0] 50 (0, 0)) := by rw [hos, hdt, hnm]; exact k6
    clear C m0 m1 m2 m3 m4 m5 m6 hos hdt hnm k6 hbw
    go_wp2_with fail
    have HFO := Lib.hid hfo
    have HOPR := Lib.hid hopr
    have HG := Lib.hid (And.intro g0 (And.intro g1 (And.intro g2 (And.intro g3 (And.intro g4 (And.intro g5 g6))))))
    have HB2 := Lib.hid hBW
    have CN := fun W => name_walk n W hn
    have HOC := Lib.hid (And.intro hxc hosl)
    clear hopr hxc hosl
    rcases HCS.out with ⟨q1, rfl⟩ | ⟨q1, q2, rfl⟩ | ⟨q1, q2, q3, rfl⟩ | ⟨q1, q2, q3, q4, rfl⟩ | ⟨q1, q2, q3, q4, (⟨q5, q6, rfl⟩ | ⟨q5, (⟨q6, q7, rfl⟩ | ⟨q6, q7, rfl⟩ | ⟨q6, rfl⟩)⟩)⟩
    all_goals
      rw [q1] at CN
      have HQ1 := Lib.hid q1
      clear q1
      try (have q8 : (8 : Int) ≤ (l.length : Int) := by (rw [los_len] at q6; omega))
      try (have q8 : ¬ (8 : Int) ≤ (l.length : Int) := by (intro h8; exact q5 ⟨by rw [HF1.out]; rfl, by rw [los_len]; omega⟩))
      try (have q7i : (200 : Int) ≤ (os.length : Int) := by (rw [HFO.out] at q7; simp only at q7; omega))
      try (have q7j : ¬ (200 : Int) ≤ (os.length : Int) := by (rw [HFO.out] at q7; simp only at q7; omega))
      try (have q6a : (s != []) = true := by (rw [bne_iff_ne]; exact q6))
      try (have q6b : s.isEmpty = false := by (cases s with | nil => exact absurd rfl q6 | cons => rfl))
      try (have q6c : (s != []) = false := by (rw [q6]; rfl))
      try (have q6d : s.isEmpty = true := by (rw [q6]; rfl))
      try (have hwr : IntKind.i64.wrap (262144 - k) = 262144 - k := by (rw [IntKind.wrap_i64]; omega))
      try clear q7
      try clear q5
      try clear q6
      refine (CN _).mono ?_
      rintro e w3 ⟨rfl, hbn⟩
      obtain ⟨g0, g1, g2, g3, g4, g5, g6⟩ := HG.out
      have hBN : Below b0 w w3 := HB2.out.trans (hbn.mono (by have := heap_lt g6; omega))
      have n0 := box_kept hbn (heap_lt g0) g0
      have n1 := box_kept hbn (heap_lt g1) g1
      have n2 := box_kept hbn (heap_lt g2) g2
      have n3 := box_kept hbn (heap_lt g3) g3
      have n4 : MBox w3 b4 (.slice a l.length c) off fuse := box_kept hbn (heap_lt g4) g4
      have n5 := box_kept hbn (heap_lt g5) g5
      have n6 := box_kept hbn (heap_lt g6) g6
      clear g0 g1 g2 g3 g4 g5 g6
      have c0 := heap_cell n0 (j := 0) (v := .slice a l.length c) rfl
      have c1 := heap_cell n1 (j := 0) (v := .int .i64 k) rfl
      have c2 := heap_cell n2 (j := 0) (v := S s) rfl
      have c5 := heap_cell n5 (j := 0) (v := .pointer (some ⟨b4, 0, none⟩)) rfl
      have c6 := heap_cell n6 (j := 2) (v := .slice none os.length 0) rfl
      have hlt6 := heap_lt n6
      have CA := fun (wr : Int) => act_walk Z b4 (.slice a l.length c) off fuse l wr 48 #[.pointer (some ⟨b2, 0, none⟩), .pointer (some ⟨b6, 0, none⟩), .pointer (some ⟨b1, 0, none⟩), .pointer (some ⟨b5, 0, none⟩)] (withF (los l) (putOps (nm, dt, os) k s)) w w3 n4 HZF.out ⟨hBN.os, hBN.tape, hBN.output, hBN.size, fun i hi => hBN.block i (by omega)⟩ (by omega) (by omega) hf1 hf2 (enters_of Try.func48 (by kernel_rfl) rfl)
        (fun _ f' v1 W1 hm1 hown1 hsz1 hsame1 => write1_walk Z (w3.heap.size + 1) b4 b2 b6 b1 b5 w3.heap.size s nm dt (.slice none os.length 0) os k v1 off f' l w W1
          { hs := (hsame1 b2 (by omega) (by omega)).trans n2, hf := (hsame1 b6 (by omega) (by omega)).trans n6, ha := (hsame1 b1 (by omega) (by omega)).trans n1, hp := (hsame1 b5 (by omega) (by omega)).trans n5, hm := hm1, hown := hown1,
            lt := ⟨by omega, by omega, by omega, by omega, by omega, by omega, hsz1, by omega, by omega, by omega, by omega, by omega, by omega, by omega⟩,
            hup := HUP.out, hcnt := hcnt, hops := HOPZ.out, hop := HOPR.out, old := fun i hi => (hsame1 i (by omega) (by omega)).trans (hBN.block i (by omega)), hol := HOC.out.2 })
      have HCA := Lib.hid CA
      have HN3 := Lib.hid n3
      have HBN := Lib.hid hBN
      clear CA n0 n1 n2 n4 n5 n6 n3 hbn
      go_wp2_with fail
      refine (HCA.out _).mono ?_
      rintro e w5 ⟨v', off', fuse', l', err, rfl, hfx, hact, hb5'⟩
      have hfr := hfx.here
      obtain ⟨a', c', hv', _⟩ := hfr.1
      subst hv'
      have r3 := box_kept hb5' (show b3 < b4 by omega) HN3.out
      have d0 := heap_cell r3 (j := 0) (v := .slice none 0 0) rfl
      have d1 := heap_cell r3 (j := 1) (v := .bool false) rfl
      have d2 := heap_cell r3 (j := 2) (v := .int .i64 0) rfl
      have s0 := is_some d0
      have s1 := is_some d1
      have s2 := is_some d2
      have f0 := heap_free r3 0
      have f1 := heap_free r3 1
      have f2 := heap_free r3 2
      have HFX := Lib.hid hfx
      have HACT := Lib.hid hact
      have HB5 := Lib.hid (HBN.out.trans (hb5'.mono (by omega)))
      clear hfx hact hfr r3 hb5'
      go_wp2
      refine bodyPost_ret (v := .tuple #[DiskV (.slice a' l'.length c') off' fuse', .int .i64 err]) (by simp [results, Try.results24, go_sem, s0, s1, s2]) rfl ?_
      have hz5 := HB5.out.size
      have hz3 := HBN.out.size
      refine ⟨_, _, _, l', err, rfl, filesx_z HFX.out (b3 := b3) (by rw [size_setCell', size_setCell', size_setCell']) (fun k hk => ((Below.heap_setCell _ _ _ _ hk).trans (Below.heap_setCell _ _ _ _ hk)).trans (Below.heap_setCell _ _ _ _ hk)) ⟨by omega, by omega⟩ (by rw [hb0]; exact HZ.out) (by omega) (by omega), by rw [HW.out, HFO.out]; exact HACT.out, ?_⟩
      · rw [hb0]
        exact below_setC (below_setC (below_setC HB5.out (by omega) 0 _) (by omega) 1 _) (by omega) 2 _
end Go.Proofs.Ythjoaoakadaieaa
