/- NodeBack: nodes go there and back. NodeWrites: what is done with nodes is the reference's. -/
import Derived.Test.YtnnjgokaabaaoaaGreatDoorFew11
import Derived.Test.YtnnjgokaabaaoaaGreatDoorAw11
import Derived.Test.YtnnjgokaabaaoaaGreatDoorPWr11b
import Derived.Test.YtnnjgokaabaaoaaGreatDoorR11g
import Derived.Test.YtnnjgokaabaaoaaGreatDoorJRSha
import Derived.Test.YtnnjgokaabaaoaaGreatDoorNodeBack
import Derived.Test.YtnnjgokaabaaoaaGreatDoorJW
import Derived.Test.YtnnjgokaabaaoaaGreatDoorJKids
namespace Go.Proofs.YtnnjgokaabaaoaaGreatDoor
open Go.RowKit

theorem keyN_fit {n : Nod} (h : FitN n) : keyN n = shaF (writeN n) := by unfold keyN; rw [if_pos (fitN_iff.2 h)]
theorem keyN_unfit {n : Nod} (h : fitN n = false) : keyN n = [] := by unfold keyN; rw [h]; rfl
theorem writeN_unfit {n : Nod} (h : fitN n = false) : writeN n = [] := by unfold writeN; rw [h]; rfl
theorem FewN.bounds {n : Nod} (h : FewN n) : n.data.length ≤ 1100000 ∧ n.parts.length ≤ 1100000 ∧ n.ents.length ≤ 1100000 ∧ ∀ e ∈ n.ents, e.1.length ≤ 1100000 :=
  ⟨by have := h.data; omega, by have := h.parts; omega, by have := h.ents; omega, fun e he => by have := (h.names e he).2; omega⟩
theorem fit_bounds {n : Nod} (h : FitN n) : n.data.length ≤ 1100000 ∧ n.parts.length ≤ 1100000 ∧ n.ents.length ≤ 1100000 ∧ ∀ e ∈ n.ents, e.1.length ≤ 1100000 := by
  obtain ⟨s1, s2, s3, s4, s5, s6, s7⟩ := fit_sizes h
  refine ⟨by omega, by omega, by omega, fun e he => ?_⟩
  have := s5 e he
  unfold entOk at this
  simp only [Bool.and_eq_true, Bool.or_eq_true, beq_iff_eq] at this
  have := nameB_len this.2.2
  omega

set_option maxHeartbeats 8000000 in
set_option maxRecDepth 100000 in
theorem nback_walk (vp ve : Value) (n : Nod) (s : List UInt8) (w : World) (hr : NodRow w n vp ve) (hT : ErrT w) :
    Calls Tryz.prog 3 #[NodV n vp ve, S s] w fun e w' => e = .returned (.bool true) ∧ Below w.heap.size w w' := by
  obtain ⟨w1, hw1, hB1, hz⟩ : ∃ w1, w1 = w.alloc (.cells #[.int .i64 n.kind, S n.data, vp, ve] 25) ∧ Below w.heap.size w w1 ∧ w1.heap[w.heap.size]? = some (.cells #[.int .i64 n.kind, S n.data, vp, ve] 25 (0, 0)) :=
    ⟨_, rfl, (Below.refl _ _).alloc (Nat.le_refl _) _, heap_alloc_new _ _⟩
  have HT := Lib.hid hT
  have hr1 := hr.below hB1
  have CF := few11_walk vp ve n w1 hr1
  have HR1 := Lib.hid hr1
  have HFI := Lib.hid (fewN_iff (n := n))
  obtain ⟨⟨z0, z1, z2, z3⟩, -, -⟩ := box4 hz
  clear hr hr1 hT
  cases hfb : fewN n with
  | false =>
    rw [hfb] at CF
    clear hfb HFI
    go_enter Tryz.func3, Tryz.ntmps3
    go_upto_region 1 with fail
    rw [← hw1]
    clear hw1
    go_wp2_with fail
    refine CF.mono ?_
    rintro e w2 ⟨rfl, hb2⟩
    have hB2 := below_chain hB1 hb2 hB1.size
    have CA := awake11_walk w2 (HT.out.below hB2)
    clear CF hz hb2 z0 z1 z2 z3
    go_wp2_with fail
    refine CA.mono ?_
    rintro e w3 ⟨rfl, hb3⟩
    go_wp2
    go_ret
    exact ⟨rfl, below_chain hB2 hb3 hB2.size⟩
  | true =>
  rw [hfb] at CF
  have hfew := HFI.out.1 hfb
  clear hfb HFI
  by_cases h5 : 5000 < s.length
  · have h5' : (5000 : Int) < (s.length : Int) := by omega
    clear h5 hfew
    go_enter Tryz.func3, Tryz.ntmps3
    go_upto_region 1 with fail
    rw [← hw1]
    clear hw1
    go_wp2_with fail
    refine CF.mono ?_
    rintro e w2 ⟨rfl, hb2⟩
    have hB2 := below_chain hB1 hb2 hB1.size
    have CA := awake11_walk w2 (HT.out.below hB2)
    clear CF hz hb2 z0 z1 z2 z3
    go_wp2_with fail
    refine CA.mono ?_
    rintro e w3 ⟨rfl, hb3⟩
    go_wp2
    go_ret
    exact ⟨rfl, below_chain hB2 hb3 hB2.size⟩
  have h5' : ¬ (5000 : Int) < (s.length : Int) := by omega
  have HS5 := Lib.hid (show s.length ≤ 5000 by omega)
  have HBN := Lib.hid hfew.bounds
  clear h5 hfew
  go_enter Tryz.func3, Tryz.ntmps3
  go_upto_region 1 with fail
  rw [← hw1]
  clear hw1
  go_wp2_with fail
  refine CF.mono ?_
  rintro e w2 ⟨rfl, hb2⟩
  have HB2 := Lib.hid (below_chain hB1 hb2 hB1.size)
  have HR2 := Lib.hid (HR1.out.below hb2)
  have HZ2 := Lib.hid ((hb2.block _ (heap_lt hz)).trans hz)
  have CP := pread11_walk s w2 (HT.out.below HB2.out) (by have := HS5.out; omega)
  unfold ReadPost at CP
  clear CF hz hb2 z0 z1 z2 z3 hB1 HR1
  go_wp2_with fail
  refine CP.mono ?_
  rintro e w3 ⟨vp3, ve3, rfl, hrow3, hb3⟩
  have HRO := Lib.hid (read_or s)
  have HOK := Lib.hid (fun m (h : readN s = (m, 0)) => read_ok h)
  obtain ⟨⟨m, er⟩, hrd⟩ : ∃ q, readN s = q := ⟨_, rfl⟩
  rw [hrd] at hrow3 HRO HOK ⊢
  simp only at hrow3 ⊢
  clear CP hrd
  obtain ⟨va, vc, rfl⟩ := row_slice hrow3.parts
  obtain ⟨ua, uc, rfl⟩ := row_slice hrow3.ents
  obtain ⟨w4, hw4, hx4, hb4⟩ : ∃ w4, w4 = w3.alloc (.cells #[.int .i64 m.kind, S m.data, .slice va m.parts.length vc, .slice ua m.ents.length uc] 25) ∧ w4.heap[w3.heap.size]? = some (.cells #[.int .i64 m.kind, S m.data, .slice va m.parts.length vc, .slice ua m.ents.length uc] 25 (0, 0)) ∧ Below w3.heap.size w3 w4 :=
    ⟨_, rfl, heap_alloc_new _ _, (Below.refl _ _).alloc (Nat.le_refl _) _⟩
  have HROW4 := Lib.hid (hrow3.below hb4)
  have HB4 := Lib.hid (below_chain (below_chain HB2.out hb3 HB2.out.size) hb4 (below_chain HB2.out hb3 HB2.out.size).size)
  have HR4 := Lib.hid ((HR2.out.below hb3).below hb4)
  have HZ4 := Lib.hid ((hb4.block _ (heap_lt ((hb3.block _ (heap_lt HZ2.out)).trans HZ2.out))).trans ((hb3.block _ (heap_lt HZ2.out)).trans HZ2.out))
  have HX4 := Lib.hid hx4
  clear hrow3 hb3 hx4 hb4 HZ2 HR2
  go_upto_region 4 with fail
  rw [← hw4]
  clear hw4
  go_cut [46] from 47 (fun t wc => t = .bool false ∧ NodRow wc n vp ve ∧ wc.heap[w.heap.size]? = some (.cells #[.int .i64 n.kind, S n.data, vp, ve] 25 (0, 0)) ∧ Below w.heap.size w wc)
  case first =>
    obtain ⟨⟨z0, z1, z2, z3⟩, -, -⟩ := box4 HX4.out
    rcases HRO.out with ⟨m', h⟩ | h
    · obtain ⟨hf, hwm⟩ := HOK.out m' h
      obtain ⟨rfl, rfl⟩ : m = m' ∧ er = 0 := by cases h; exact ⟨rfl, rfl⟩
      obtain ⟨b1, b2, b3, b4⟩ := fit_bounds hf
      have CW := pwrite11_walk _ _ m w4 HROW4.out b1 b2 b3 b4
      have CFT := fun W hW => pfit11_walk (.slice va m.parts.length vc) (.slice ua m.ents.length uc) m W hW b1 b2 b3 b4
      rw [hwm] at CW
      rw [fitN_iff.2 hf] at CFT
      clear h hf hwm HRO HOK b1 b2 b3 b4
      go_wp2_with fail
      refine CW.mono ?_
      rintro e w5 ⟨rfl, hb5⟩
      have CF5 := CFT w5 (HROW4.out.below hb5)
      have HB5 := Lib.hid (below_chain HB4.out hb5 HB4.out.size)
      have HR5 := Lib.hid (HR4.out.below hb5)
      have HZ5 := Lib.hid ((hb5.block _ (heap_lt HZ4.out)).trans HZ4.out)
      have hx5 := (hb5.block _ (heap_lt HX4.out)).trans HX4.out
      obtain ⟨⟨y0, y1, y2, y3⟩, -, -⟩ := box4 hx5
      clear CW CFT hb5 hx5 z0 z1 z2 z3
      go_wp2_with fail
      refine CF5.mono ?_
      rintro e w6 ⟨rfl, hb6⟩
      have HB6 := Lib.hid (below_chain HB5.out hb6 HB5.out.size)
      have HR6 := Lib.hid (HR5.out.below hb6)
      have HZ6 := Lib.hid ((hb6.block _ (heap_lt HZ5.out)).trans HZ5.out)
      clear CF5 hb6 y0 y1 y2 y3
      go_wp2
      go_meet
      case rel => exact ⟨rfl, HR6.out, HZ6.out, HB6.out⟩
    · obtain ⟨hm, rfl⟩ : m = zNod ∧ er = 2 := by cases h; exact ⟨rfl, rfl⟩
      have CS : Calls Tryz.prog 12 #[.agg #[.int .i64 m.kind, S m.data, .slice va m.parts.length vc, .slice ua m.ents.length uc], .agg #[.int .i64 0, .string ⟨#[]⟩, .slice none 0 0, .slice none 0 0]] w4 (fun e w' => e = .returned (.bool true) ∧ Below w4.heap.size w4 w') := by
        have h := rsame11_walk _ _ (.slice none 0 0) (.slice none 0 0) m zNod w4 HROW4.out ⟨Row.nil _ _, Row.nil _ _⟩ (by rw [hm]; simp [zNod]) (by rw [hm]; simp [zNod]) (by simp [zNod]) (by simp [zNod])
        rw [sameN_yes hm] at h
        exact h
      clear h hm HRO HOK
      go_wp2_with fail
      refine CS.mono ?_
      rintro e w5 ⟨rfl, hb5⟩
      have HB5 := Lib.hid (below_chain HB4.out hb5 HB4.out.size)
      have HR5 := Lib.hid (HR4.out.below hb5)
      have HZ5 := Lib.hid ((hb5.block _ (heap_lt HZ4.out)).trans HZ4.out)
      clear CS hb5 z0 z1 z2 z3
      go_wp2
      go_meet
      case rel => exact ⟨rfl, HR5.out, HZ5.out, HB5.out⟩
  case rest =>
    obtain ⟨rfl, hr, hz, hB⟩ := hcut
    clear HROW4 HB4 HR4 HZ4 HX4 HRO HOK
    obtain ⟨b1, b2, b3, b4⟩ := HBN.out
    have CW := pwrite11_walk vp ve n wc hr b1 b2 b3 b4
    have CFT := fun W hW => rfit11_walk vp ve n W hW b1 b2 b3 b4
    have CK := fun W hW => pkey11_walk vp ve n W hW b1 b2 b3 b4
    have HKF := Lib.hid (fun h : FitN n => keyN_fit h)
    have HKU := Lib.hid (fun h : fitN n = false => keyN_unfit h)
    have HWU := Lib.hid (fun h : fitN n = false => writeN_unfit h)
    have HRW := Lib.hid (fun h : FitN n => read_write h)
    have HFT := Lib.hid (fun h : fitN n = true => fitN_iff.1 h)
    have hwl := writeN_len (n := n)
    obtain ⟨⟨z0, z1, z2, z3⟩, -, -⟩ := box4 hz
    have HZ := Lib.hid hz
    have HR := Lib.hid hr
    have HB := Lib.hid hB
    clear hz hr hB b1 b2 b3 b4
    generalize writeN n = t at *
    generalize keyN n = kn at *
    cases hft : fitN n with
    | false =>
      have hwu := HWU.out hft
      have hku := HKU.out hft
      rw [hft] at CFT
      clear hft HKF HKU HWU HRW HFT
      subst hwu hku
      go_wp2_with fail
      refine CW.mono ?_
      rintro e w5 ⟨rfl, hb5⟩
      have HB5 := Lib.hid (below_chain HB.out hb5 HB.out.size)
      have HR5 := Lib.hid (HR.out.below hb5)
      have HZ5 := Lib.hid ((hb5.block _ (heap_lt HZ.out)).trans HZ.out)
      have CF5 := CFT w5 HR5.out
      obtain ⟨⟨y0, y1, y2, y3⟩, -, -⟩ := box4 HZ5.out
      clear CW CFT hb5 z0 z1 z2 z3
      go_wp2_with fail
      refine CF5.mono ?_
      rintro e w6 ⟨rfl, hb6⟩
      have HB6 := Lib.hid (below_chain HB5.out hb6 HB5.out.size)
      have HR6 := Lib.hid (HR5.out.below hb6)
      have hz6 := (hb6.block _ (heap_lt HZ5.out)).trans HZ5.out
      have CK6 := CK w6 HR6.out
      obtain ⟨⟨x0, x1, x2, x3⟩, -, -⟩ := box4 hz6
      clear CF5 CK hb6 hz6 y0 y1 y2 y3
      go_wp2_with fail
      refine CK6.mono ?_
      rintro e w7 ⟨rfl, hb7⟩
      have HB7 := Lib.hid (below_chain HB6.out hb7 HB6.out.size)
      have CA := awake11_walk w7 (HT.out.below HB7.out)
      clear CK6 hb7 x0 x1 x2 x3
      go_wp2_with fail
      refine CA.mono ?_
      rintro e w8 ⟨rfl, hb8⟩
      have HB8 := Lib.hid (below_chain HB7.out hb8 HB7.out.size)
      clear hb8 CA
      go_wp2
      go_ret
      exact ⟨rfl, HB8.out⟩
    | true =>
      have hfn := HFT.out hft
      have hkf := HKF.out hfn
      have hrw := HRW.out hfn
      rw [hft] at CFT
      clear hft HKF HKU HWU HRW HFT
      subst hkf
      have CR := fun W hW => pread11_walk t W hW (by omega)
      unfold ReadPost at CR
      rw [hrw] at CR
      have CSH := fun W => rsha_walk t W (by omega)
      have HNS := Lib.hid (fun a b c d W h1 h2 => (show _ from rsame11_walk a b c d n n W h1 h2 HBN.out.2.1 HBN.out.2.2.1 HBN.out.2.1 HBN.out.2.2.1))
      have HSY := Lib.hid (sameN_yes (rfl : n = n))
      clear hfn hrw
      go_wp2_with fail
      refine CW.mono ?_
      rintro e w5 ⟨rfl, hb5⟩
      have HB5 := Lib.hid (below_chain HB.out hb5 HB.out.size)
      have HR5 := Lib.hid (HR.out.below hb5)
      have HZ5 := Lib.hid ((hb5.block _ (heap_lt HZ.out)).trans HZ.out)
      have CF5 := CFT w5 HR5.out
      obtain ⟨⟨y0, y1, y2, y3⟩, -, -⟩ := box4 HZ5.out
      clear CW CFT hb5 z0 z1 z2 z3
      go_wp2_with fail
      refine CF5.mono ?_
      rintro e w6 ⟨rfl, hb6⟩
      have HB6 := Lib.hid (below_chain HB5.out hb6 HB5.out.size)
      have HR6 := Lib.hid (HR5.out.below hb6)
      have HZ6 := Lib.hid ((hb6.block _ (heap_lt HZ5.out)).trans HZ5.out)
      have CR6 := CR w6 (HT.out.below HB6.out)
      clear CF5 CR hb6 y0 y1 y2 y3
      go_wp2_with fail
      refine CR6.mono ?_
      rintro e w7 ⟨vp7, ve7, rfl, hrow7, hb7⟩
      obtain ⟨va7, vc7, rfl⟩ := row_slice hrow7.parts
      obtain ⟨ua7, uc7, rfl⟩ := row_slice hrow7.ents
      simp only at hrow7 ⊢
      have hB7 := below_chain HB6.out hb7 HB6.out.size
      have hR7 := HR6.out.below hb7
      have hZ7 := (hb7.block _ (heap_lt HZ6.out)).trans HZ6.out
      obtain ⟨w8, hw8, hx8, hb8⟩ : ∃ w8, w8 = w7.alloc (.cells #[.int .i64 n.kind, S n.data, .slice va7 n.parts.length vc7, .slice ua7 n.ents.length uc7] 25) ∧ w8.heap[w7.heap.size]? = some (.cells #[.int .i64 n.kind, S n.data, .slice va7 n.parts.length vc7, .slice ua7 n.ents.length uc7] 25 (0, 0)) ∧ Below w7.heap.size w7 w8 :=
        ⟨_, rfl, heap_alloc_new _ _, (Below.refl _ _).alloc (Nat.le_refl _) _⟩
      have hr8 := hrow7.below hb8
      have HR8 := Lib.hid (hR7.below hb8)
      have HB8 := Lib.hid (below_chain hB7 hb8 hB7.size)
      have HZ8 := Lib.hid ((hb8.block _ (heap_lt hZ7)).trans hZ7)
      have CS8 := HNS.out _ _ _ _ w8 hr8 HR8.out
      rw [HSY.out] at CS8
      obtain ⟨⟨x0, x1, x2, x3⟩, -, -⟩ := box4 HZ8.out
      obtain ⟨⟨q0, q1, q2, q3⟩, -, -⟩ := box4 hx8
      clear CR6 hrow7 hb7 hB7 hR7 hZ7 hx8 hr8 hb8 HNS HSY
      go_upto_region 10 with fail
      rw [← hw8]
      clear hw8
      go_wp2_with fail
      refine CS8.mono ?_
      rintro e w9 ⟨rfl, hb9⟩
      have HB9 := Lib.hid (below_chain HB8.out hb9 HB8.out.size)
      have HR9 := Lib.hid (HR8.out.below hb9)
      have hz9 := (hb9.block _ (heap_lt HZ8.out)).trans HZ8.out
      have CK9 := CK w9 HR9.out
      obtain ⟨⟨p0, p1, p2, p3⟩, -, -⟩ := box4 hz9
      clear CS8 CK hb9 hz9 x0 x1 x2 x3 q0 q1 q2 q3
      go_wp2_with fail
      refine CK9.mono ?_
      rintro e w10 ⟨rfl, hb10⟩
      have HB10 := Lib.hid (below_chain HB9.out hb10 HB9.out.size)
      clear CK9 hb10 p0 p1 p2 p3
      go_wp2_with fail
      refine (CSH w10).mono ?_
      rintro e w11 ⟨rfl, hb11⟩
      have HB11 := Lib.hid (below_chain HB10.out hb11 HB10.out.size)
      have CA := awake11_walk w11 (HT.out.below HB11.out)
      clear CSH hb11
      go_wp2_with fail
      refine CA.mono ?_
      rintro e w12 ⟨rfl, hb12⟩
      have HB12 := Lib.hid (below_chain HB11.out hb12 HB11.out.size)
      clear hb12 CA
      go_wp2
      go_ret
      exact ⟨rfl, HB12.out⟩
end Go.Proofs.YtnnjgokaabaaoaaGreatDoor

namespace Go.Proofs.YtnnjgokaabaaoaaGreatDoor
open Go.RowKit

theorem FewN.tot {n : Nod} (h : FewN n) : n.parts.length + n.ents.length ≤ 1100000 := by have := h.parts; have := h.ents; omega
theorem lsame11_walk (v v2 : Value) (xs ys : List (List UInt8)) (w : World) (hr : StrRow w v xs) (hr2 : StrRow w v2 ys) (hcnt : xs.length ≤ 1100000) :
    Calls Tryz.prog 22 #[v, v2] w fun e w' => e = .returned (.bool (decide (xs = ys))) ∧ Below w.heap.size w w' := by
  have C := rsame5_walk v v2 xs ys w hr hr2 hcnt
  generalize decide (xs = ys) = res at *
  clear hr hr2 hcnt
  go_enter Tryz.func22, Tryz.ntmps22
  go_wp2_with fail
  refine C.mono ?_
  rintro e w2 ⟨rfl, hb2⟩
  go_wp2
  go_ret
  exact ⟨rfl, hb2⟩
theorem laterErr {w : World} (h : ErrT w) (p : LaterOf w) : ErrT p.world := h.below p.below

set_option maxHeartbeats 8000000 in
set_option maxRecDepth 100000 in
theorem nwrites_walk (vp ve : Value) (n : Nod) (vp2 ve2 : Value) (m : Nod) (w : World) (hr : NodRow w n vp ve) (hr2 : NodRow w m vp2 ve2) (hT : ErrT w) :
    Calls Tryz.prog 6 #[NodV n vp ve, NodV m vp2 ve2] w fun e w' => e = .returned (.bool true) ∧ Below w.heap.size w w' := by
  obtain ⟨w1, hw1, hB1, hz, hy⟩ : ∃ w1, w1 = (w.alloc (.cells #[.int .i64 n.kind, S n.data, vp, ve] 25)).alloc (.cells #[.int .i64 m.kind, S m.data, vp2, ve2] 25) ∧ Below w.heap.size w w1 ∧ w1.heap[w.heap.size]? = some (.cells #[.int .i64 n.kind, S n.data, vp, ve] 25 (0, 0)) ∧ w1.heap[w.heap.size + 1]? = some (.cells #[.int .i64 m.kind, S m.data, vp2, ve2] 25 (0, 0)) :=
    ⟨_, rfl, ((Below.refl _ _).alloc (Nat.le_refl _) _).alloc (by simp) _, heap_alloc2_old _ _ _, heap_alloc2_new _ _ _⟩
  have HT := Lib.hid hT
  have HR := Lib.hid hr
  have HR2 := Lib.hid hr2
  have HFI := Lib.hid (fewN_iff (n := n))
  have HFJ := Lib.hid (fewN_iff (n := m))
  have HBN := Lib.hid (fun h : FewN n => h.bounds)
  have HBM := Lib.hid (fun h : FewN m => h.bounds)
  have CF := fun W h => few11_walk vp ve n W h
  have CG := fun W h => few11_walk vp2 ve2 m W h
  have HZ1 := Lib.hid hz
  have HY1 := Lib.hid hy
  have HB1 := Lib.hid hB1
  obtain ⟨⟨z0, z1, z2, z3⟩, -, -⟩ := box4 hz
  obtain ⟨⟨y0, y1, y2, y3⟩, -, -⟩ := box4 hy
  have C1 := CF w1 (HR.out.below HB1.out)
  clear hz hy hB1 hr hr2 hT CF
  cases hf1 : fewN n with
  | false =>
    rw [hf1] at C1
    go_enter Tryz.func6, Tryz.ntmps6
    go_upto_region 1 with fail
    rw [← hw1]
    clear hw1
    go_wp2_with fail
    refine C1.mono ?_
    rintro e w2 ⟨rfl, hb2⟩
    have hB2 := below_chain HB1.out hb2 HB1.out.size
    have CA := awake11_walk w2 (HT.out.below hB2)
    clear C1 z0 z1 z2 z3 y0 y1 y2 y3
    go_wp2_with fail
    refine CA.mono ?_
    rintro e wz ⟨rfl, hbz⟩
    go_wp2
    go_ret
    exact ⟨rfl, below_chain hB2 hbz hB2.size⟩
  | true =>
  rw [hf1] at C1
  have hfew := HFI.out.1 hf1
  have hbn := HBN.out hfew
  have HBN2 := Lib.hid hbn
  have HTOT := Lib.hid hfew.tot
  clear hf1 hfew hbn HFI HBN
  go_enter Tryz.func6, Tryz.ntmps6
  go_upto_region 1 with fail
  rw [← hw1]
  clear hw1
  go_wp2_with fail
  refine C1.mono ?_
  rintro e w2 ⟨rfl, hb2⟩
  have HB2 := Lib.hid (below_chain HB1.out hb2 HB1.out.size)
  have HZ2 := Lib.hid ((hb2.block _ (heap_lt HZ1.out)).trans HZ1.out)
  have HY2 := Lib.hid ((hb2.block _ (heap_lt HY1.out)).trans HY1.out)
  clear C1 hb2 z0 z1 z2 z3 y0 y1 y2 y3 HZ1 HY1
  obtain ⟨⟨z0, z1, z2, z3⟩, -, -⟩ := box4 HZ2.out
  obtain ⟨⟨y0, y1, y2, y3⟩, -, -⟩ := box4 HY2.out
  have C2 := CG w2 (HR2.out.below HB2.out)
  clear CG
  cases hf2 : fewN m with
  | false =>
    rw [hf2] at C2
    go_wp2_with fail
    refine C2.mono ?_
    rintro e w3 ⟨rfl, hb3⟩
    have hB3 := below_chain HB2.out hb3 HB2.out.size
    have CA := awake11_walk w3 (HT.out.below hB3)
    clear C2 z0 z1 z2 z3 y0 y1 y2 y3
    go_wp2_with fail
    refine CA.mono ?_
    rintro e wz ⟨rfl, hbz⟩
    go_wp2
    go_ret
    exact ⟨rfl, below_chain hB3 hbz hB3.size⟩
  | true =>
  rw [hf2] at C2
  have hfew2 := HFJ.out.1 hf2
  have hbm := HBM.out hfew2
  have HBM2 := Lib.hid hbm
  clear hf2 hfew2 hbm HFJ HBM
  go_wp2_with fail
  refine C2.mono ?_
  rintro e w3 ⟨rfl, hb3⟩
  have HB3 := Lib.hid (below_chain HB2.out hb3 HB2.out.size)
  have HZ3 := Lib.hid ((hb3.block _ (heap_lt HZ2.out)).trans HZ2.out)
  have HY3 := Lib.hid ((hb3.block _ (heap_lt HY2.out)).trans HY2.out)
  clear C2 hb3 z0 z1 z2 z3 y0 y1 y2 y3 HZ2 HY2
  obtain ⟨⟨z0, z1, z2, z3⟩, -, -⟩ := box4 HZ3.out
  obtain ⟨⟨y0, y1, y2, y3⟩, -, -⟩ := box4 HY3.out
  have q0 := LaterOf.cell z0
  have q1 := LaterOf.cell z1
  have q2 := LaterOf.cell z2
  have q3 := LaterOf.cell z3
  have p0 := LaterOf.cell y0
  have p1 := LaterOf.cell y1
  have p2 := LaterOf.cell y2
  have p3 := LaterOf.cell y3
  have hbn := HBN2.out
  have hbm := HBM2.out
  have HR4 := Lib.hid (HR.out.below HB3.out)
  have HQ4 := Lib.hid (HR2.out.below HB3.out)
  have CF1 := fun p : LaterOf w3 => pfit11_walk vp ve n p.world (HR4.out.below p.below) hbn.1 hbn.2.1 hbn.2.2.1 hbn.2.2.2
  have CF2 := fun p : LaterOf w3 => rfit11_walk vp ve n p.world (HR4.out.below p.below) hbn.1 hbn.2.1 hbn.2.2.1 hbn.2.2.2
  have CS1 := fun p : LaterOf w3 => psame11_walk vp ve vp2 ve2 n m p.world (HR4.out.below p.below) (HQ4.out.below p.below) hbn.2.1 hbn.2.2.1
  have CS2 := fun p : LaterOf w3 => rsame11_walk vp ve vp2 ve2 n m p.world (HR4.out.below p.below) (HQ4.out.below p.below) hbn.2.1 hbn.2.2.1 hbm.2.1 hbm.2.2.1
  have CS3 := fun p : LaterOf w3 => psame11_walk vp ve vp ve n n p.world (HR4.out.below p.below) (HR4.out.below p.below) hbn.2.1 hbn.2.2.1
  have CW1 := fun p : LaterOf w3 => pwrite11_walk vp ve n p.world (HR4.out.below p.below) hbn.1 hbn.2.1 hbn.2.2.1 hbn.2.2.2
  have CW2 := fun p : LaterOf w3 => rwrite11_walk vp ve n p.world (HR4.out.below p.below) hbn.1 hbn.2.1 hbn.2.2.1 hbn.2.2.2
  have CK1 := fun p : LaterOf w3 => pkey11_walk vp ve n p.world (HR4.out.below p.below) hbn.1 hbn.2.1 hbn.2.2.1 hbn.2.2.2
  have CK2 := fun p : LaterOf w3 => rkey11_walk vp ve n p.world (HR4.out.below p.below) hbn.1 hbn.2.1 hbn.2.2.1 hbn.2.2.2
  rw [sameN_yes (show n = n from rfl)] at CS3
  have HTW := Lib.hid (HT.out.below HB3.out)
  generalize fitN n = fb at *
  generalize sameN n m = sm at *
  generalize writeN n = A at *
  generalize keyN n = K at *
  clear hbn hbm HBN2 HBM2 z0 z1 z2 z3 y0 y1 y2 y3
  go_upto_region 3 with fail
  (refine wp_tail_quick2 33 11 rfl (by kernel_rfl) (by kernel_rfl) (by kernel_rfl) (by kernel_rfl) ?_; simp only [List.take_succ_cons, List.take_zero]; (repeat (go_big_quiet_step (first | (go_at_call 11; with_reducible exact LaterOf.call _ (CF1 _)) | (go_at_call 13; with_reducible exact LaterOf.call _ (CF2 _)) | (go_at_call 19; with_reducible exact LaterOf.call _ (CS1 _)) | (go_at_call 12; with_reducible exact LaterOf.call _ (CS2 _)) | (go_at_call 19; with_reducible exact LaterOf.call _ (CS3 _)) | (go_at_call 10; with_reducible exact LaterOf.call _ (CW1 _)) | (go_at_call 20; with_reducible exact LaterOf.call _ (CW2 _)) | (go_at_call 14; with_reducible exact LaterOf.call _ (CK1 _)) | (go_at_call 21; with_reducible exact LaterOf.call _ (CK2 _))))); refine wpQuiet_nil ?_; intro _ hw1; obtain ⟨lw, hw2⟩ := hw1; subst hw2)
  clear CF1 CF2 CS1 CS2 CS3 CW1 CW2 CK1 CK2 p0 p1 p2 p3
  refine wpAny_of_held (S := LaterS w3) _ _ _ _ ?_
  (refine wpAnyH_one (i := 33) (by kernel_rfl) rfl (fun K hK => ?_); go_simp; refine hK _ _ ⟨_, rfl⟩ ?_; clear hK K)
  (refine wpAnyH_take (i := 34) (v := ?_) rfl (by kernel_rfl) (by kernel_rfl) (by kernel_rfl) (fun _ _ _ h => h) (Or.inl ⟨by rfl, ?_⟩) ⟨_, rfl⟩ ?_; rotate_left; (intro w9 hS9; obtain ⟨p9, hp9⟩ := hS9; subst hp9; go_simp; try with_reducible rfl))
  (refine wpAnyH_take (i := 36) (v := ?_) rfl (by kernel_rfl) (by kernel_rfl) (by kernel_rfl) (fun _ _ _ h => h) (Or.inl ⟨by rfl, ?_⟩) ⟨_, rfl⟩ ?_; rotate_left; (intro w9 hS9; obtain ⟨p9, hp9⟩ := hS9; subst hp9; go_simp; try with_reducible rfl))
  have CA := pkids_walk vp ve n lw.world (HR4.out.below lw.below) HTOT.out
  (refine wpAnyH_one (i := 35) (by kernel_rfl) rfl (fun K hK => ?_); go_simp; refine (CA).mono ?_; rintro e wz ⟨v5, rfl, hr5, hb5⟩; (obtain ⟨lw5, rfl⟩ : ∃ p : LaterOf _, wz = p.world := ⟨⟨wz, below_chain lw.below hb5 lw.below.size⟩, rfl⟩); refine hK _ _ ⟨lw5, rfl⟩ ?_; clear hK K)
  have CB := rkids_walk vp ve n lw5.world (HR4.out.below lw5.below) HTOT.out
  (refine wpAnyH_one (i := 37) (by kernel_rfl) rfl (fun K hK => ?_); go_simp; refine (CB).mono ?_; rintro e wz ⟨v6, rfl, hr6, hb6⟩; (obtain ⟨lw6, rfl⟩ : ∃ p : LaterOf _, wz = p.world := ⟨⟨wz, below_chain lw5.below hb6 lw5.below.size⟩, rfl⟩); refine hK _ _ ⟨lw6, rfl⟩ ?_; clear hK K)
  have CC := lsame11_walk v5 v6 (kidsN n) (kidsN n) lw6.world (hr5.below hb6) hr6 (by have := kidsN_len n; have := HTOT.out; omega)
  rw [decide_eq_true (show kidsN n = kidsN n from rfl)] at CC
  obtain ⟨a5, c5, rfl, -, -, -⟩ := hr5
  obtain ⟨a6, c6, rfl, -, -, -⟩ := hr6
  (refine wpAnyH_one (i := 38) (by kernel_rfl) rfl (fun K hK => ?_); go_simp; refine (CC).mono ?_; rintro e wz ⟨rfl, hb7⟩; (obtain ⟨lw7, rfl⟩ : ∃ p : LaterOf _, wz = p.world := ⟨⟨wz, below_chain lw6.below hb7 lw6.below.size⟩, rfl⟩); refine hK _ _ ⟨lw7, rfl⟩ ?_; clear hK K)
  (refine wpAnyH_one (i := 39) (by kernel_rfl) rfl (fun K hK => ?_); go_simp; refine hK _ _ ⟨_, rfl⟩ ?_; clear hK K)
  (refine wpAnyH_one (i := 40) (by kernel_rfl) rfl (fun K hK => ?_); go_simp; refine hK _ _ ⟨_, rfl⟩ ?_; clear hK K)
  (refine wpAnyH_one (i := 41) (by kernel_rfl) rfl (fun K hK => ?_); go_simp; refine (awake11_walk _ (laterErr HTW.out lw7)).mono ?_; rintro e wz ⟨rfl, hb8⟩; (obtain ⟨lw8, rfl⟩ : ∃ p : LaterOf _, wz = p.world := ⟨⟨wz, below_chain lw7.below hb8 lw7.below.size⟩, rfl⟩); refine hK _ _ ⟨lw8, rfl⟩ ?_; clear hK K)
  (refine wpAnyH_one (i := 42) (by kernel_rfl) rfl (fun K hK => ?_); go_simp; refine hK _ _ ⟨_, rfl⟩ ?_; clear hK K)
  (refine wpAnyH_one (i := 43) (by kernel_rfl) rfl (fun K hK => ?_); go_simp; refine hK _ _ ⟨_, rfl⟩ ?_; clear hK K)
  (refine wpAnyH_done (by kernel_rfl) ?_ _)
  go_wp2
  go_ret
  exact ⟨rfl, below_chain HB3.out lw8.below HB3.out.size⟩
end Go.Proofs.YtnnjgokaabaaoaaGreatDoor
