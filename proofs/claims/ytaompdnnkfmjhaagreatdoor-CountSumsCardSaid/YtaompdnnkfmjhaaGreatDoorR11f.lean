/- The reference's Read of a node. -/
import Derived.Test.YtaompdnnkfmjhaaGreatDoorJR11d
import Derived.Test.YtaompdnnkfmjhaaGreatDoorJR11
import Derived.Test.YtaompdnnkfmjhaaGreatDoorR11c
import Derived.Test.YtaompdnnkfmjhaaGreatDoorJPTText
namespace Go.Proofs.YtaompdnnkfmjhaaGreatDoor
open Go.RowKit

set_option maxHeartbeats 4000000 in
set_option maxRecDepth 100000 in
theorem rread11_walk (s : List UInt8) (w : World) (hs : s.length ≤ 1000000) :
    Calls Tryz.prog 13 #[S s] w (ReadPost s w) := by
  obtain ⟨w1, hw1, hb1, hz1⟩ : ∃ w1, w1 = w.alloc (.cells #[.int .i64 0, .string ⟨#[]⟩, .slice none 0 0, .slice none 0 0] 36) ∧ Below w.heap.size w w1 ∧ w1.heap[w.heap.size]? = some (.cells #[.int .i64 0, .string ⟨#[]⟩, .slice none 0 0, .slice none 0 0] 36 (0, 0)) :=
    ⟨_, rfl, (Below.refl _ _).alloc (Nat.le_refl _) _, heap_alloc_new _ _⟩
  cases hs0 : s with
  | nil =>
    have HRES := Lib.hid (show readN [] = (zNod, 2) from rd_none rfl)
    have he : ((⟨(([] : List UInt8)).toArray⟩ : ByteArray) == ⟨#[]⟩) = true := by rfl
    clear hs0 hs s
    obtain ⟨⟨c0, c1, c2, c3⟩, ⟨f0, f1, f2, f3⟩, ⟨q0, q1, q2, q3⟩⟩ := box4 hz1
    obtain ⟨w9, hw9, hz9, hB9⟩ : ∃ w9, w9 = (((w1.setCell ⟨w.heap.size, 0, none⟩ (.int .i64 0)).setCell ⟨w.heap.size, 1, none⟩ (.string ⟨#[]⟩)).setCell ⟨w.heap.size, 2, none⟩ (.slice none 0 0)).setCell ⟨w.heap.size, 3, none⟩ (.slice none 0 0) ∧ w9.heap[w.heap.size]? = some (.cells #[.int .i64 0, .string ⟨#[]⟩, .slice none 0 0, .slice none 0 0] 36 (0, 0)) ∧ Below w.heap.size w w9 :=
      ⟨_, rfl, heap_set_cell (heap_set_cell (heap_set_cell (heap_set_cell hz1 _) _) _) _, below_setT (below_setT (below_setT (below_setT hb1 (Nat.le_refl _) _ _) (Nat.le_refl _) _ _) (Nat.le_refl _) _ _) (Nat.le_refl _) _ _⟩
    have HB9 := Lib.hid hB9
    have HZ9 := Lib.hid hz9
    clear hB9 hz9 hz1 hb1
    go_enter Tryz.func13, Tryz.ntmps13
    go_upto_region 1 with fail
    rw [← hw1]
    clear hw1
    go_wp2
    rw [← hw9]
    obtain ⟨⟨x0, x1, x2, x3⟩, -, -⟩ := box4 HZ9.out
    refine bodyPost_ret (v := .tuple #[NodV zNod (.slice none 0 0) (.slice none 0 0), .int .i64 2]) (by simp [results, Tryz.results13, go_sem, x0, x1, x2, x3, zNod]) rfl ?_
    exact ⟨_, _, by rw [HRES.out], by rw [HRES.out]; exact ⟨Row.nil _ _, Row.nil _ _⟩, HB9.out⟩
  | cons c t =>
    have HS := Lib.hid hs0
    have hsl : s.length = t.length + 1 := by rw [hs0]; rfl
    rw [← hs0]
    have he : s.isEmpty = false := by rw [hs0]; rfl
    have hl0 : (0 : Int) < (s.length : Int) := by omega
    have hl1 : (1 : Int) ≤ (s.length : Int) := by omega
    have hpos : 0 < s.length := by omega
    have hidx : (({ data := s.toArray } : ByteArray)[0]'hpos).toNat = c.toNat := by subst hs0; rfl
    have hex : ({ data := s.toArray } : ByteArray).extract 1 s.length = ⟨t.toArray⟩ := by
      rw [ba_cut, cutL_tail _ _ _ (Nat.le_refl _), hs0]; rfl
    have hc8 : c.toNat < 256 := c.toNat_lt
    have htl : t.length ≤ 1000000 := by omega
    have HSL := Lib.hid hsl
    clear hs0 hsl
    obtain ⟨N, hNN⟩ : ∃ N, w1.heap.size = N := ⟨_, rfl⟩
    have HNN := Lib.hid hNN
    by_cases hk1 : c.toNat = 1
    case pos =>
      have HE := Lib.hid (show RdEnd s ⟨1, t, [], []⟩ by rw [HS.out]; exact end_one hk1)
      obtain ⟨w2, hw2, hn2, hz2, hB2, hN⟩ : ∃ w2, w2 = w1.alloc (.cells #[.int .i64 1, .string ⟨#[]⟩, .slice none 0 0, .slice none 0 0] 36) ∧ w2.heap[w1.heap.size]? = some (.cells #[.int .i64 1, .string ⟨#[]⟩, .slice none 0 0, .slice none 0 0] 36 (0, 0)) ∧ w2.heap[w.heap.size]? = some (.cells #[.int .i64 0, .string ⟨#[]⟩, .slice none 0 0, .slice none 0 0] 36 (0, 0)) ∧ Below w.heap.size w w2 ∧ w.heap.size < w1.heap.size :=
        ⟨_, rfl, heap_alloc_new _ _, (((Below.refl _ _).alloc (Nat.le_refl _) _).block _ (heap_lt hz1)).trans hz1, hb1.alloc hb1.size _, heap_lt hz1⟩
      rw [hNN] at hn2 hN
      clear hb1 hz1
      obtain ⟨⟨n0, n1, n2, n3⟩, ⟨g0, g1, g2, g3⟩, ⟨p0, p1, p2, p3⟩⟩ := box4 hn2

      obtain ⟨w3, hw3, hn3, hz3, hB3⟩ : ∃ w3, w3 = w2.setCell ⟨N, 1, none⟩ (S t) ∧ w3.heap[N]? = some (.cells #[.int .i64 1, S t, .slice none 0 0, .slice none 0 0] 36 (0, 0)) ∧ w3.heap[w.heap.size]? = some (.cells #[.int .i64 0, .string ⟨#[]⟩, .slice none 0 0, .slice none 0 0] 36 (0, 0)) ∧ Below w.heap.size w w3 :=
        ⟨_, rfl, heap_set_cell hn2 _, (Below.heap_setCell _ _ _ _ (show w.heap.size ≠ N by omega)).trans hz2, below_setT hB2 (by omega) _ _⟩
      have HROW := Lib.hid (show NodRow w3 ⟨1, t, [], []⟩ (.slice none 0 0) (.slice none 0 0) from ⟨Row.nil _ _, Row.nil _ _⟩)
      have HL1 := Lib.hid (show t.length ≤ 1100000 by omega)
      have HL2 := Lib.hid (show ([] : List Prt).length ≤ 1100000 by simp)
      have HL3 := Lib.hid (show ([] : List Ent).length ≤ 1100000 by simp)
      have HL4 := Lib.hid (show ∀ e ∈ ([] : List Ent), e.1.length ≤ 1100000 by simp)
      have HV1 := Lib.hid (show ∀ j, (Value.slice none 0 0).ownBlock = some j → w.heap.size ≠ j by intro j h; cases h)
      have HV2 := Lib.hid (show ∀ j, (Value.slice none 0 0).ownBlock = some j → w.heap.size ≠ j by intro j h; cases h)
      clear hn2 hz2 hB2
      go_enter Tryz.func13, Tryz.ntmps13
      go_upto_region 1 with fail
      rw [← hw1]
      clear hw1

      go_upto_region 4 with fail
      rw [← hw2]
      clear hw2
      go_upto_region 24 with fail
      rw [← hw3]
      clear hw3 n0 n1 n2 n3 g0 g1 g2 g3 p0 p1 p2 p3
      obtain ⟨⟨n0, n1, n2, n3⟩, -, -⟩ := box4 hn3
      have CF := rfit11_walk (.slice none 0 0) (.slice none 0 0) ⟨1, t, [], []⟩ w3 HROW.out HL1.out HL2.out HL3.out HL4.out
      have CW := fun W' (hb : Below w3.heap.size w3 W') => rwrite11_walk (.slice none 0 0) (.slice none 0 0) ⟨1, t, [], []⟩ W' (HROW.out.below hb) HL1.out HL2.out HL3.out HL4.out
      obtain ⟨m, hm⟩ : ∃ m, writeN ⟨1, t, [], []⟩ = m := ⟨_, rfl⟩
      have HM := Lib.hid hm
      have HBW := Lib.hid hB3
      rw [hm] at CW
      have hNw : N < w3.heap.size := heap_lt hn3
      clear hm hB3
      cases hf : fitN ⟨1, t, [], []⟩ with
      | false =>
        rw [hf] at CF
        have HRES := Lib.hid (HE.out.2.1 hf)
        clear hf
        go_wp2_with fail
        refine CF.mono ?_
        rintro e w4 ⟨rfl, hb4⟩
        have hz4 := (hb4.block _ (heap_lt hz3)).trans hz3
        have hB4 := below_chain HBW.out hb4 HBW.out.size
        clear CF CW n0 n1 n2 n3
        obtain ⟨⟨c0, c1, c2, c3⟩, ⟨f0, f1, f2, f3⟩, ⟨q0, q1, q2, q3⟩⟩ := box4 hz4
        obtain ⟨w9, hw9, hz9, hB9⟩ : ∃ w9, w9 = (((w4.setCell ⟨w.heap.size, 0, none⟩ (.int .i64 0)).setCell ⟨w.heap.size, 1, none⟩ (.string ⟨#[]⟩)).setCell ⟨w.heap.size, 2, none⟩ (.slice none 0 0)).setCell ⟨w.heap.size, 3, none⟩ (.slice none 0 0) ∧ w9.heap[w.heap.size]? = some (.cells #[.int .i64 0, .string ⟨#[]⟩, .slice none 0 0, .slice none 0 0] 36 (0, 0)) ∧ Below w.heap.size w w9 :=
          ⟨_, rfl, heap_set_cell (heap_set_cell (heap_set_cell (heap_set_cell hz4 _) _) _) _, below_setT (below_setT (below_setT (below_setT hB4 (Nat.le_refl _) _ _) (Nat.le_refl _) _ _) (Nat.le_refl _) _ _) (Nat.le_refl _) _ _⟩
        have HB9 := Lib.hid hB9
        have HZ9 := Lib.hid hz9
        clear hB9 hz9 hz4 hB4 hb4 hz3
        go_wp2
        rw [← hw9]
        obtain ⟨⟨x0, x1, x2, x3⟩, -, -⟩ := box4 HZ9.out
        refine bodyPost_ret (v := .tuple #[NodV zNod (.slice none 0 0) (.slice none 0 0), .int .i64 2]) (by simp [results, Tryz.results13, go_sem, x0, x1, x2, x3, zNod]) rfl ?_
        exact ⟨_, _, by rw [HRES.out], by rw [HRES.out]; exact ⟨Row.nil _ _, Row.nil _ _⟩, HB9.out⟩
      | true =>
        rw [hf] at CF
        have HF := Lib.hid hf
        clear hf
        by_cases hms : m = s
        case neg =>
          have hq : (m == s) = false := by rw [beq_eq_false_iff_ne]; exact hms
          have hq2 : (m != s) = true := by rw [bne_iff_ne]; exact hms
          have HRES := Lib.hid (HE.out.2.2 (by rw [HM.out]; exact hms))
          clear hms
          go_wp2_with fail
          refine CF.mono ?_
          rintro e w4 ⟨rfl, hb4⟩
          obtain ⟨⟨o0, o1, o2, o3⟩, -, -⟩ := box4 ((hb4.block _ hNw).trans hn3)
          have hz4 := (hb4.block _ (heap_lt hz3)).trans hz3
          have hB4 := below_chain HBW.out hb4 HBW.out.size
          have C5 := CW w4 hb4
          clear CF CW n0 n1 n2 n3
          go_wp2_with fail
          refine C5.mono ?_
          rintro e w5 ⟨rfl, hb5⟩
          have hz5 := (hb5.block _ (heap_lt hz4)).trans hz4
          have hB5 := below_chain hB4 hb5 hB4.size
          clear C5 o0 o1 o2 o3
          obtain ⟨⟨c0, c1, c2, c3⟩, ⟨f0, f1, f2, f3⟩, ⟨q0, q1, q2, q3⟩⟩ := box4 hz5
          obtain ⟨w9, hw9, hz9, hB9⟩ : ∃ w9, w9 = (((w5.setCell ⟨w.heap.size, 0, none⟩ (.int .i64 0)).setCell ⟨w.heap.size, 1, none⟩ (.string ⟨#[]⟩)).setCell ⟨w.heap.size, 2, none⟩ (.slice none 0 0)).setCell ⟨w.heap.size, 3, none⟩ (.slice none 0 0) ∧ w9.heap[w.heap.size]? = some (.cells #[.int .i64 0, .string ⟨#[]⟩, .slice none 0 0, .slice none 0 0] 36 (0, 0)) ∧ Below w.heap.size w w9 :=
            ⟨_, rfl, heap_set_cell (heap_set_cell (heap_set_cell (heap_set_cell hz5 _) _) _) _, below_setT (below_setT (below_setT (below_setT hB5 (Nat.le_refl _) _ _) (Nat.le_refl _) _ _) (Nat.le_refl _) _ _) (Nat.le_refl _) _ _⟩
          have HB9 := Lib.hid hB9
          have HZ9 := Lib.hid hz9
          clear hB9 hz9 hz5 hB5 hb5 hz4 hB4 hb4 hz3
          go_wp2
          rw [← hw9]
          obtain ⟨⟨x0, x1, x2, x3⟩, -, -⟩ := box4 HZ9.out
          refine bodyPost_ret (v := .tuple #[NodV zNod (.slice none 0 0) (.slice none 0 0), .int .i64 2]) (by simp [results, Tryz.results13, go_sem, x0, x1, x2, x3, zNod]) rfl ?_
          exact ⟨_, _, by rw [HRES.out], by rw [HRES.out]; exact ⟨Row.nil _ _, Row.nil _ _⟩, HB9.out⟩
        case pos =>
          have hq : (m == s) = true := by rw [beq_iff_eq]; exact hms
          have hq2 : (m != s) = false := by rw [hms]; simp
          have HRES := Lib.hid (HE.out.1 HF.out (by rw [HM.out]; exact hms))
          clear hms
          go_wp2_with fail
          refine CF.mono ?_
          rintro e w4 ⟨rfl, hb4⟩
          have hn4 := (hb4.block _ hNw).trans hn3
          obtain ⟨⟨o0, o1, o2, o3⟩, -, -⟩ := box4 hn4
          have hz4 := (hb4.block _ (heap_lt hz3)).trans hz3
          have hB4 := below_chain HBW.out hb4 HBW.out.size
          have C5 := CW w4 hb4
          clear CF CW n0 n1 n2 n3
          go_wp2_with fail
          refine C5.mono ?_
          rintro e w5 ⟨rfl, hb5⟩
          have hn5 := (hb5.block _ (heap_lt hn4)).trans hn4
          have hz5 := (hb5.block _ (heap_lt hz4)).trans hz4
          have hB5 := below_chain hB4 hb5 hB4.size
          have hrow5 := (HROW.out.below hb4).below hb5
          obtain ⟨⟨s0, s1, s2, s3⟩, -, -⟩ := box4 hn5
          obtain ⟨⟨c0, c1, c2, c3⟩, ⟨f0, f1, f2, f3⟩, ⟨q0, q1, q2, q3⟩⟩ := box4 hz5
          obtain ⟨w9, hw9, hz9, hB9, hrow9⟩ : ∃ w9, w9 = (((w5.setCell ⟨w.heap.size, 0, none⟩ (.int .i64 1)).setCell ⟨w.heap.size, 1, none⟩ (S t)).setCell ⟨w.heap.size, 2, none⟩ (.slice none 0 0)).setCell ⟨w.heap.size, 3, none⟩ (.slice none 0 0) ∧ w9.heap[w.heap.size]? = some (.cells #[.int .i64 1, S t, .slice none 0 0, .slice none 0 0] 36 (0, 0)) ∧ Below w.heap.size w w9 ∧ Hid (NodRow w9 ⟨1, t, [], []⟩ (.slice none 0 0) (.slice none 0 0)) :=
            ⟨_, rfl, heap_set_cell (heap_set_cell (heap_set_cell (heap_set_cell hz5 _) _) _) _, below_setT (below_setT (below_setT (below_setT hB5 (Nat.le_refl _) _ _) (Nat.le_refl _) _ _) (Nat.le_refl _) _ _) (Nat.le_refl _) _ _,
              Lib.hid (nod_other (nod_other (nod_other (nod_other hrow5 HV1.out HV2.out _ _) HV1.out HV2.out _ _) HV1.out HV2.out _ _) HV1.out HV2.out _ _)⟩
          have HB9 := Lib.hid hB9
          have HZ9 := Lib.hid hz9
          clear C5 o0 o1 o2 o3 hz9 hB9 hrow5 hn5 hz5 hB5 hn4 hz4 hB4 hb4 hb5
          go_wp2
          rw [← hw9]
          obtain ⟨⟨x0, x1, x2, x3⟩, -, -⟩ := box4 HZ9.out
          refine bodyPost_ret (v := .tuple #[NodV ⟨1, t, [], []⟩ (.slice none 0 0) (.slice none 0 0), .int .i64 0]) (by simp [results, Tryz.results13, go_sem, x0, x1, x2, x3]) rfl ?_
          exact ⟨_, _, by rw [HRES.out], by rw [HRES.out]; exact hrow9.out, HB9.out⟩
    case neg =>
      have hk1' : ((c.toNat : Int) == 1) = false := by rw [beq_eq_false_iff_ne]; omega
      have HK1 := Lib.hid hk1
      obtain ⟨kd, hkd⟩ : ∃ kd, c.toNat = kd := ⟨_, rfl⟩
      have HKD := Lib.hid hkd
      rw [hkd] at hidx hc8 hk1'
      clear hkd hk1
      have CT := fun W => r01take_walk t W
      have hok := takeV_ok (l := t)
      have HNU := Lib.hid (show numR 1024 t = if (takeV t).2.2 ≠ 0 ∨ 1024 < (takeV t).1 then none else some ((takeV t).1, t.drop (takeV t).2.1) from rfl)
      generalize takeV t = tv at *
      obtain ⟨n, k, e⟩ := tv
      simp only at CT hok HNU
      by_cases he0 : e = 0
      case neg =>
        have he' : (e != 0) = true := by rw [bne_iff_ne]; exact he0
        have HRES := Lib.hid (show readN s = (zNod, 2) by rw [HS.out]; exact no_num HK1.out (by rw [HNU.out, if_pos (.inl he0)]))
        clear he0 hok HNU
        obtain ⟨w2, hw2, hn2, hz2, hB2, hN⟩ : ∃ w2, w2 = w1.alloc (.cells #[.int .i64 (kd : Int), .string ⟨#[]⟩, .slice none 0 0, .slice none 0 0] 36) ∧ w2.heap[w1.heap.size]? = some (.cells #[.int .i64 (kd : Int), .string ⟨#[]⟩, .slice none 0 0, .slice none 0 0] 36 (0, 0)) ∧ w2.heap[w.heap.size]? = some (.cells #[.int .i64 0, .string ⟨#[]⟩, .slice none 0 0, .slice none 0 0] 36 (0, 0)) ∧ Below w.heap.size w w2 ∧ w.heap.size < w1.heap.size :=
          ⟨_, rfl, heap_alloc_new _ _, (((Below.refl _ _).alloc (Nat.le_refl _) _).block _ (heap_lt hz1)).trans hz1, hb1.alloc hb1.size _, heap_lt hz1⟩
        rw [hNN] at hn2 hN
        clear hb1 hz1
        obtain ⟨⟨n0, n1, n2, n3⟩, ⟨g0, g1, g2, g3⟩, ⟨p0, p1, p2, p3⟩⟩ := box4 hn2
        clear hn2
        obtain ⟨⟨c0, c1, c2, c3⟩, ⟨f0, f1, f2, f3⟩, ⟨q0, q1, q2, q3⟩⟩ := box4 hz2
        obtain ⟨w9, hw9, hz9, hB9⟩ : ∃ w9, w9 = (((w2.setCell ⟨w.heap.size, 0, none⟩ (.int .i64 0)).setCell ⟨w.heap.size, 1, none⟩ (.string ⟨#[]⟩)).setCell ⟨w.heap.size, 2, none⟩ (.slice none 0 0)).setCell ⟨w.heap.size, 3, none⟩ (.slice none 0 0) ∧ w9.heap[w.heap.size]? = some (.cells #[.int .i64 0, .string ⟨#[]⟩, .slice none 0 0, .slice none 0 0] 36 (0, 0)) ∧ Below w.heap.size w w9 :=
          ⟨_, rfl, heap_set_cell (heap_set_cell (heap_set_cell (heap_set_cell hz2 _) _) _) _, below_setT (below_setT (below_setT (below_setT hB2 (Nat.le_refl _) _ _) (Nat.le_refl _) _ _) (Nat.le_refl _) _ _) (Nat.le_refl _) _ _⟩
        have HB9 := Lib.hid hB9
        have HZ9 := Lib.hid hz9
        clear hB9 hz9 hz2 hB2
        go_enter Tryz.func13, Tryz.ntmps13
        go_upto_region 1 with fail
        rw [← hw1]
        clear hw1
        go_upto_region 4 with fail
        rw [← hw2]
        clear hw2
        go_wp2_with (go_at_call 35; refine (CT _).mono ?_; rintro e w3 ⟨rfl, rfl⟩)
        rw [← hw9]
        obtain ⟨⟨x0, x1, x2, x3⟩, -, -⟩ := box4 HZ9.out
        refine bodyPost_ret (v := .tuple #[NodV zNod (.slice none 0 0) (.slice none 0 0), .int .i64 2]) (by simp [results, Tryz.results13, go_sem, x0, x1, x2, x3, zNod]) rfl ?_
        exact ⟨_, _, by rw [HRES.out], by rw [HRES.out]; exact ⟨Row.nil _ _, Row.nil _ _⟩, HB9.out⟩
      case pos =>
        have he' : (e != 0) = false := by rw [he0]; rfl
        by_cases hn1 : 1024 < n
        case pos =>
          have hn1' : (1024 : Int) < (n : Int) := by omega
          have HRES := Lib.hid (show readN s = (zNod, 2) by rw [HS.out]; exact no_num HK1.out (by rw [HNU.out, if_pos (.inr hn1)]))
          clear he0 hok HNU hn1
          obtain ⟨w2, hw2, hn2, hz2, hB2, hN⟩ : ∃ w2, w2 = w1.alloc (.cells #[.int .i64 (kd : Int), .string ⟨#[]⟩, .slice none 0 0, .slice none 0 0] 36) ∧ w2.heap[w1.heap.size]? = some (.cells #[.int .i64 (kd : Int), .string ⟨#[]⟩, .slice none 0 0, .slice none 0 0] 36 (0, 0)) ∧ w2.heap[w.heap.size]? = some (.cells #[.int .i64 0, .string ⟨#[]⟩, .slice none 0 0, .slice none 0 0] 36 (0, 0)) ∧ Below w.heap.size w w2 ∧ w.heap.size < w1.heap.size :=
            ⟨_, rfl, heap_alloc_new _ _, (((Below.refl _ _).alloc (Nat.le_refl _) _).block _ (heap_lt hz1)).trans hz1, hb1.alloc hb1.size _, heap_lt hz1⟩
          rw [hNN] at hn2 hN
          clear hb1 hz1
          obtain ⟨⟨n0, n1, n2, n3⟩, ⟨g0, g1, g2, g3⟩, ⟨p0, p1, p2, p3⟩⟩ := box4 hn2
          clear hn2
          obtain ⟨⟨c0, c1, c2, c3⟩, ⟨f0, f1, f2, f3⟩, ⟨q0, q1, q2, q3⟩⟩ := box4 hz2
          obtain ⟨w9, hw9, hz9, hB9⟩ : ∃ w9, w9 = (((w2.setCell ⟨w.heap.size, 0, none⟩ (.int .i64 0)).setCell ⟨w.heap.size, 1, none⟩ (.string ⟨#[]⟩)).setCell ⟨w.heap.size, 2, none⟩ (.slice none 0 0)).setCell ⟨w.heap.size, 3, none⟩ (.slice none 0 0) ∧ w9.heap[w.heap.size]? = some (.cells #[.int .i64 0, .string ⟨#[]⟩, .slice none 0 0, .slice none 0 0] 36 (0, 0)) ∧ Below w.heap.size w w9 :=
            ⟨_, rfl, heap_set_cell (heap_set_cell (heap_set_cell (heap_set_cell hz2 _) _) _) _, below_setT (below_setT (below_setT (below_setT hB2 (Nat.le_refl _) _ _) (Nat.le_refl _) _ _) (Nat.le_refl _) _ _) (Nat.le_refl _) _ _⟩
          have HB9 := Lib.hid hB9
          have HZ9 := Lib.hid hz9
          clear hB9 hz9 hz2 hB2
          go_enter Tryz.func13, Tryz.ntmps13
          go_upto_region 1 with fail
          rw [← hw1]
          clear hw1
          go_upto_region 4 with fail
          rw [← hw2]
          clear hw2
          go_wp2_with (go_at_call 35; refine (CT _).mono ?_; rintro e w3 ⟨rfl, rfl⟩)
          rw [← hw9]
          obtain ⟨⟨x0, x1, x2, x3⟩, -, -⟩ := box4 HZ9.out
          refine bodyPost_ret (v := .tuple #[NodV zNod (.slice none 0 0) (.slice none 0 0), .int .i64 2]) (by simp [results, Tryz.results13, go_sem, x0, x1, x2, x3, zNod]) rfl ?_
          exact ⟨_, _, by rw [HRES.out], by rw [HRES.out]; exact ⟨Row.nil _ _, Row.nil _ _⟩, HB9.out⟩
        case neg =>
          have hn1' : ¬ (1024 : Int) < (n : Int) := by omega
          have HN1 := Lib.hid hn1
          have HNUM := Lib.hid (show numR 1024 t = some (n, t.drop k) by rw [HNU.out, if_neg (fun h => h.elim (fun h => h he0) hn1)])
          have hkt := (hok he0).1
          have hkt1 : (k : Int) ≤ (t.length : Int) := by omega
          have hex2 : ({ data := t.toArray } : ByteArray).extract k t.length = ⟨(t.drop k).toArray⟩ := by
            rw [ba_cut, cutL_tail _ _ _ (Nat.le_refl _)]
          have HDL := Lib.hid (show (t.drop k).length ≤ t.length by rw [List.length_drop]; omega)
          clear he0 hok HNU hn1
          by_cases hk2 : kd = 2
          case pos =>
            subst hk2
            have HK2 := HKD
            obtain ⟨w2, hw2, hn2, hz2, hB2, hN⟩ : ∃ w2, w2 = w1.alloc (.cells #[.int .i64 2, .string ⟨#[]⟩, .slice none 0 0, .slice none 0 0] 36) ∧ w2.heap[w1.heap.size]? = some (.cells #[.int .i64 2, .string ⟨#[]⟩, .slice none 0 0, .slice none 0 0] 36 (0, 0)) ∧ w2.heap[w.heap.size]? = some (.cells #[.int .i64 0, .string ⟨#[]⟩, .slice none 0 0, .slice none 0 0] 36 (0, 0)) ∧ Below w.heap.size w w2 ∧ w.heap.size < w1.heap.size :=
              ⟨_, rfl, heap_alloc_new _ _, (((Below.refl _ _).alloc (Nat.le_refl _) _).block _ (heap_lt hz1)).trans hz1, hb1.alloc hb1.size _, heap_lt hz1⟩
            rw [hNN] at hn2 hN
            clear hb1 hz1
            obtain ⟨⟨n0, n1, n2, n3⟩, ⟨g0, g1, g2, g3⟩, ⟨p0, p1, p2, p3⟩⟩ := box4 hn2
            obtain ⟨B, hBB⟩ : ∃ B, w2.heap.size = B := ⟨_, rfl⟩
            have HBB := Lib.hid (Nat.le_of_eq hBB.symm)
            have HNB := Lib.hid (show w.heap.size < B by have := heap_lt hn2; omega)
            have HN2 := Lib.hid hn2
            have HZ2 := Lib.hid hz2
            have HB2 := Lib.hid hB2
            have HNz := Lib.hid hN
            have HNB2 := Lib.hid (show N < B by have := heap_lt hn2; omega)
            clear hz2 hB2 hn2 hBB
            obtain ⟨i0, hi, hi0, hi1, hi2⟩ := info_parts infoPrt
            go_enter Tryz.func13, Tryz.ntmps13
            go_upto_region 1 with fail
            rw [← hw1]
            clear hw1
            go_upto_region 4 with fail
            rw [← hw2]
            clear hw2
            go_wp2_with (go_at_call 35; refine (CT _).mono ?_; rintro e w3 ⟨rfl, rfl⟩)
            go_loopw [5, 9, 10] (fun rv okv i wr => ∃ (j : Nat) (l : List Prt) (sk : List UInt8) (okk : Bool) (va : Option Addr) (vc : Nat), i = .int .u64 j ∧ j ≤ n ∧ l.length = j ∧ okv = .bool okk ∧ rv = S sk ∧ sk.length ≤ t.length ∧ wr.ownsRow B 78 2 (.slice va l.length vc) l.length (l.flatMap prtC) ∧ wr.heap[N]? = some (.cells #[.int .i64 2, .string ⟨#[]⟩, .slice va l.length vc, .slice none 0 0] 36 (0, 0)) ∧ wr.heap[w.heap.size]? = some (.cells #[.int .i64 0, .string ⟨#[]⟩, .slice none 0 0, .slice none 0 0] 36 (0, 0)) ∧ Below w.heap.size w wr ∧ B ≤ wr.heap.size ∧ SevP partR n (t.drop k) true j l sk okk) (fun _ _ i _ => n - (intOf i).toNat)
            case atStart => exact ⟨0, [], t.drop k, true, none, 0, rfl, Nat.zero_le _, rfl, rfl, rfl, HDL.out, World.ownsRow_nil _ _ _ _, HN2.out, HZ2.out, HB2.out, HBB.out, SevP.start _ _ _ _⟩
            case round =>
              obtain ⟨j, l, sk, okk, va, vc, rfl, hj, hlj, rfl, rfl, hsk, hown, hnr, hzr, hBr, hBs, hsp⟩ := hrel
              have HOWN := Lib.hid hown
              have HSP := Lib.hid hsp
              have HLJ := Lib.hid hlj
              have HNR := Lib.hid hnr
              have HZR := Lib.hid hzr
              have HBR := Lib.hid hBr
              clear hown hsp hlj
              cases okk with
              | false =>
                have HRES := Lib.hid (show readN s = (zNod, 2) by rw [HS.out]; exact no_two HK2.out HNUM.out HSP.out)
                by_cases h1 : j < n
                case pos =>
                  have h1' : (j : Int) < (n : Int) := by omega
                  obtain ⟨⟨c0, c1, c2, c3⟩, ⟨f0, f1, f2, f3⟩, ⟨q0, q1, q2, q3⟩⟩ := box4 hzr
                  obtain ⟨w9, hw9, hz9, hB9⟩ : ∃ w9, w9 = (((wr.setCell ⟨w.heap.size, 0, none⟩ (.int .i64 0)).setCell ⟨w.heap.size, 1, none⟩ (.string ⟨#[]⟩)).setCell ⟨w.heap.size, 2, none⟩ (.slice none 0 0)).setCell ⟨w.heap.size, 3, none⟩ (.slice none 0 0) ∧ w9.heap[w.heap.size]? = some (.cells #[.int .i64 0, .string ⟨#[]⟩, .slice none 0 0, .slice none 0 0] 36 (0, 0)) ∧ Below w.heap.size w w9 :=
                    ⟨_, rfl, heap_set_cell (heap_set_cell (heap_set_cell (heap_set_cell hzr _) _) _) _, below_setT (below_setT (below_setT (below_setT hBr (Nat.le_refl _) _ _) (Nat.le_refl _) _ _) (Nat.le_refl _) _ _) (Nat.le_refl _) _ _⟩
                  have HB9 := Lib.hid hB9
                  have HZ9 := Lib.hid hz9
                  clear hB9 hz9 hzr hBr hnr
                  go_wp2
                  rw [← hw9]
                  obtain ⟨⟨x0, x1, x2, x3⟩, -, -⟩ := box4 HZ9.out
                  refine bodyPost_ret (v := .tuple #[NodV zNod (.slice none 0 0) (.slice none 0 0), .int .i64 2]) (by simp [results, Tryz.results13, go_sem, x0, x1, x2, x3, zNod]) rfl ?_
                  exact ⟨_, _, by rw [HRES.out], by rw [HRES.out]; exact ⟨Row.nil _ _, Row.nil _ _⟩, HB9.out⟩
                case neg =>
                  have h1' : ¬ (j : Int) < (n : Int) := by omega
                  obtain ⟨⟨c0, c1, c2, c3⟩, ⟨f0, f1, f2, f3⟩, ⟨q0, q1, q2, q3⟩⟩ := box4 hzr
                  obtain ⟨w9, hw9, hz9, hB9⟩ : ∃ w9, w9 = (((wr.setCell ⟨w.heap.size, 0, none⟩ (.int .i64 0)).setCell ⟨w.heap.size, 1, none⟩ (.string ⟨#[]⟩)).setCell ⟨w.heap.size, 2, none⟩ (.slice none 0 0)).setCell ⟨w.heap.size, 3, none⟩ (.slice none 0 0) ∧ w9.heap[w.heap.size]? = some (.cells #[.int .i64 0, .string ⟨#[]⟩, .slice none 0 0, .slice none 0 0] 36 (0, 0)) ∧ Below w.heap.size w w9 :=
                    ⟨_, rfl, heap_set_cell (heap_set_cell (heap_set_cell (heap_set_cell hzr _) _) _) _, below_setT (below_setT (below_setT (below_setT hBr (Nat.le_refl _) _ _) (Nat.le_refl _) _ _) (Nat.le_refl _) _ _) (Nat.le_refl _) _ _⟩
                  have HB9 := Lib.hid hB9
                  have HZ9 := Lib.hid hz9
                  clear hB9 hz9 hzr hBr hnr
                  go_wp2
                  rw [← hw9]
                  obtain ⟨⟨x0, x1, x2, x3⟩, -, -⟩ := box4 HZ9.out
                  refine bodyPost_ret (v := .tuple #[NodV zNod (.slice none 0 0) (.slice none 0 0), .int .i64 2]) (by simp [results, Tryz.results13, go_sem, x0, x1, x2, x3, zNod]) rfl ?_
                  exact ⟨_, _, by rw [HRES.out], by rw [HRES.out]; exact ⟨Row.nil _ _, Row.nil _ _⟩, HB9.out⟩
              | true =>
                by_cases h1 : j < n
                case neg =>
                  have h1' : ¬ (j : Int) < (n : Int) := by omega
                  have HE := Lib.hid (show RdEnd s ⟨2, [], l, []⟩ by rw [HS.out]; exact end_two HK2.out HNUM.out HSP.out (by omega))
                  have HROW := Lib.hid (show NodRow wr ⟨2, [], l, []⟩ (.slice va l.length vc) (.slice none 0 0) from ⟨Row.of_ownsK (K := 2) (f := prtC) (fun _ => rfl) HOWN.out, Row.nil _ _⟩)
                  have HL1 := Lib.hid (show ([] : List UInt8).length ≤ 1100000 by simp)
                  have HL2 := Lib.hid (show (l : List Prt).length ≤ 1100000 by have := HLJ.out; have := HN1.out; omega)
                  have HL3 := Lib.hid (show ([] : List Ent).length ≤ 1100000 by simp)
                  have HL4 := Lib.hid (show ∀ e ∈ ([] : List Ent), e.1.length ≤ 1100000 by simp)
                  have HV1 := Lib.hid (show ∀ j, (Value.slice va l.length vc).ownBlock = some j → w.heap.size ≠ j by intro j h; have := (HOWN.out.lt j h).1; have := HNB.out; omega)
                  have HV2 := Lib.hid (show ∀ j, (Value.slice none 0 0).ownBlock = some j → w.heap.size ≠ j by intro j h; cases h)
                  clear h1
                  obtain ⟨⟨n0, n1, n2, n3⟩, -, -⟩ := box4 hnr
                  have CF := rfit11_walk (.slice va l.length vc) (.slice none 0 0) ⟨2, [], l, []⟩ wr HROW.out HL1.out HL2.out HL3.out HL4.out
                  have CW := fun W' (hb : Below wr.heap.size wr W') => rwrite11_walk (.slice va l.length vc) (.slice none 0 0) ⟨2, [], l, []⟩ W' (HROW.out.below hb) HL1.out HL2.out HL3.out HL4.out
                  obtain ⟨m, hm⟩ : ∃ m, writeN ⟨2, [], l, []⟩ = m := ⟨_, rfl⟩
                  have HM := Lib.hid hm
                  have HBW := Lib.hid hBr
                  rw [hm] at CW
                  have hNw : N < wr.heap.size := heap_lt hnr
                  clear hm hBr
                  cases hf : fitN ⟨2, [], l, []⟩ with
                  | false =>
                    rw [hf] at CF
                    have HRES := Lib.hid (HE.out.2.1 hf)
                    clear hf
                    go_wp2_with fail
                    refine CF.mono ?_
                    rintro e w4 ⟨rfl, hb4⟩
                    have hz4 := (hb4.block _ (heap_lt hzr)).trans hzr
                    have hB4 := below_chain HBW.out hb4 HBW.out.size
                    clear CF CW n0 n1 n2 n3
                    obtain ⟨⟨c0, c1, c2, c3⟩, ⟨f0, f1, f2, f3⟩, ⟨q0, q1, q2, q3⟩⟩ := box4 hz4
                    obtain ⟨w9, hw9, hz9, hB9⟩ : ∃ w9, w9 = (((w4.setCell ⟨w.heap.size, 0, none⟩ (.int .i64 0)).setCell ⟨w.heap.size, 1, none⟩ (.string ⟨#[]⟩)).setCell ⟨w.heap.size, 2, none⟩ (.slice none 0 0)).setCell ⟨w.heap.size, 3, none⟩ (.slice none 0 0) ∧ w9.heap[w.heap.size]? = some (.cells #[.int .i64 0, .string ⟨#[]⟩, .slice none 0 0, .slice none 0 0] 36 (0, 0)) ∧ Below w.heap.size w w9 :=
                      ⟨_, rfl, heap_set_cell (heap_set_cell (heap_set_cell (heap_set_cell hz4 _) _) _) _, below_setT (below_setT (below_setT (below_setT hB4 (Nat.le_refl _) _ _) (Nat.le_refl _) _ _) (Nat.le_refl _) _ _) (Nat.le_refl _) _ _⟩
                    have HB9 := Lib.hid hB9
                    have HZ9 := Lib.hid hz9
                    clear hB9 hz9 hz4 hB4 hb4 hzr
                    go_wp2
                    rw [← hw9]
                    obtain ⟨⟨x0, x1, x2, x3⟩, -, -⟩ := box4 HZ9.out
                    refine bodyPost_ret (v := .tuple #[NodV zNod (.slice none 0 0) (.slice none 0 0), .int .i64 2]) (by simp [results, Tryz.results13, go_sem, x0, x1, x2, x3, zNod]) rfl ?_
                    exact ⟨_, _, by rw [HRES.out], by rw [HRES.out]; exact ⟨Row.nil _ _, Row.nil _ _⟩, HB9.out⟩
                  | true =>
                    rw [hf] at CF
                    have HF := Lib.hid hf
                    clear hf
                    by_cases hms : m = s
                    case neg =>
                      have hq : (m == s) = false := by rw [beq_eq_false_iff_ne]; exact hms
                      have hq2 : (m != s) = true := by rw [bne_iff_ne]; exact hms
                      have HRES := Lib.hid (HE.out.2.2 (by rw [HM.out]; exact hms))
                      clear hms
                      go_wp2_with fail
                      refine CF.mono ?_
                      rintro e w4 ⟨rfl, hb4⟩
                      obtain ⟨⟨o0, o1, o2, o3⟩, -, -⟩ := box4 ((hb4.block _ hNw).trans hnr)
                      have hz4 := (hb4.block _ (heap_lt hzr)).trans hzr
                      have hB4 := below_chain HBW.out hb4 HBW.out.size
                      have C5 := CW w4 hb4
                      clear CF CW n0 n1 n2 n3
                      go_wp2_with fail
                      refine C5.mono ?_
                      rintro e w5 ⟨rfl, hb5⟩
                      have hz5 := (hb5.block _ (heap_lt hz4)).trans hz4
                      have hB5 := below_chain hB4 hb5 hB4.size
                      clear C5 o0 o1 o2 o3
                      obtain ⟨⟨c0, c1, c2, c3⟩, ⟨f0, f1, f2, f3⟩, ⟨q0, q1, q2, q3⟩⟩ := box4 hz5
                      obtain ⟨w9, hw9, hz9, hB9⟩ : ∃ w9, w9 = (((w5.setCell ⟨w.heap.size, 0, none⟩ (.int .i64 0)).setCell ⟨w.heap.size, 1, none⟩ (.string ⟨#[]⟩)).setCell ⟨w.heap.size, 2, none⟩ (.slice none 0 0)).setCell ⟨w.heap.size, 3, none⟩ (.slice none 0 0) ∧ w9.heap[w.heap.size]? = some (.cells #[.int .i64 0, .string ⟨#[]⟩, .slice none 0 0, .slice none 0 0] 36 (0, 0)) ∧ Below w.heap.size w w9 :=
                        ⟨_, rfl, heap_set_cell (heap_set_cell (heap_set_cell (heap_set_cell hz5 _) _) _) _, below_setT (below_setT (below_setT (below_setT hB5 (Nat.le_refl _) _ _) (Nat.le_refl _) _ _) (Nat.le_refl _) _ _) (Nat.le_refl _) _ _⟩
                      have HB9 := Lib.hid hB9
                      have HZ9 := Lib.hid hz9
                      clear hB9 hz9 hz5 hB5 hb5 hz4 hB4 hb4 hzr
                      go_wp2
                      rw [← hw9]
                      obtain ⟨⟨x0, x1, x2, x3⟩, -, -⟩ := box4 HZ9.out
                      refine bodyPost_ret (v := .tuple #[NodV zNod (.slice none 0 0) (.slice none 0 0), .int .i64 2]) (by simp [results, Tryz.results13, go_sem, x0, x1, x2, x3, zNod]) rfl ?_
                      exact ⟨_, _, by rw [HRES.out], by rw [HRES.out]; exact ⟨Row.nil _ _, Row.nil _ _⟩, HB9.out⟩
                    case pos =>
                      have hq : (m == s) = true := by rw [beq_iff_eq]; exact hms
                      have hq2 : (m != s) = false := by rw [hms]; simp
                      have HRES := Lib.hid (HE.out.1 HF.out (by rw [HM.out]; exact hms))
                      clear hms
                      go_wp2_with fail
                      refine CF.mono ?_
                      rintro e w4 ⟨rfl, hb4⟩
                      have hn4 := (hb4.block _ hNw).trans hnr
                      obtain ⟨⟨o0, o1, o2, o3⟩, -, -⟩ := box4 hn4
                      have hz4 := (hb4.block _ (heap_lt hzr)).trans hzr
                      have hB4 := below_chain HBW.out hb4 HBW.out.size
                      have C5 := CW w4 hb4
                      clear CF CW n0 n1 n2 n3
                      go_wp2_with fail
                      refine C5.mono ?_
                      rintro e w5 ⟨rfl, hb5⟩
                      have hn5 := (hb5.block _ (heap_lt hn4)).trans hn4
                      have hz5 := (hb5.block _ (heap_lt hz4)).trans hz4
                      have hB5 := below_chain hB4 hb5 hB4.size
                      have hrow5 := (HROW.out.below hb4).below hb5
                      obtain ⟨⟨s0, s1, s2, s3⟩, -, -⟩ := box4 hn5
                      obtain ⟨⟨c0, c1, c2, c3⟩, ⟨f0, f1, f2, f3⟩, ⟨q0, q1, q2, q3⟩⟩ := box4 hz5
                      obtain ⟨w9, hw9, hz9, hB9, hrow9⟩ : ∃ w9, w9 = (((w5.setCell ⟨w.heap.size, 0, none⟩ (.int .i64 2)).setCell ⟨w.heap.size, 1, none⟩ (S ([] : List UInt8))).setCell ⟨w.heap.size, 2, none⟩ (.slice va l.length vc)).setCell ⟨w.heap.size, 3, none⟩ (.slice none 0 0) ∧ w9.heap[w.heap.size]? = some (.cells #[.int .i64 2, S ([] : List UInt8), .slice va l.length vc, .slice none 0 0] 36 (0, 0)) ∧ Below w.heap.size w w9 ∧ Hid (NodRow w9 ⟨2, [], l, []⟩ (.slice va l.length vc) (.slice none 0 0)) :=
                        ⟨_, rfl, heap_set_cell (heap_set_cell (heap_set_cell (heap_set_cell hz5 _) _) _) _, below_setT (below_setT (below_setT (below_setT hB5 (Nat.le_refl _) _ _) (Nat.le_refl _) _ _) (Nat.le_refl _) _ _) (Nat.le_refl _) _ _,
                          Lib.hid (nod_other (nod_other (nod_other (nod_other hrow5 HV1.out HV2.out _ _) HV1.out HV2.out _ _) HV1.out HV2.out _ _) HV1.out HV2.out _ _)⟩
                      have HB9 := Lib.hid hB9
                      have HZ9 := Lib.hid hz9
                      clear C5 o0 o1 o2 o3 hz9 hB9 hrow5 hn5 hz5 hB5 hn4 hz4 hB4 hb4 hb5
                      go_wp2
                      rw [← hw9]
                      obtain ⟨⟨x0, x1, x2, x3⟩, -, -⟩ := box4 HZ9.out
                      refine bodyPost_ret (v := .tuple #[NodV ⟨2, [], l, []⟩ (.slice va l.length vc) (.slice none 0 0), .int .i64 0]) (by simp [results, Tryz.results13, go_sem, x0, x1, x2, x3]) rfl ?_
                      exact ⟨_, _, by rw [HRES.out], by rw [HRES.out]; exact hrow9.out, HB9.out⟩
                case pos =>
                  have h1' : (j : Int) < (n : Int) := by omega
                  obtain ⟨w3, hw3, hb3, hP3⟩ : ∃ w3, w3 = wr.alloc (.cells #[.string ⟨#[]⟩, .int .i64 0] 78) ∧ Below wr.heap.size wr w3 ∧ w3.heap[wr.heap.size]? = some (.cells #[.string ⟨#[]⟩, .int .i64 0] 78 (0, 0)) :=
                    ⟨_, rfl, (Below.refl _ _).alloc (Nat.le_refl _) _, heap_alloc_new _ _⟩
                  have hn3 := (hb3.block _ (heap_lt hnr)).trans hnr
                  have hz3 := (hb3.block _ (heap_lt hzr)).trans hzr
                  have hB3 := below_chain hBr hb3 hBr.size
                  have hown3 := own_on HOWN.out hb3
                  have CP := rpart_walk sk w3 (by omega)
                  obtain ⟨⟨n0, n1, n2, n3⟩, -, -⟩ := box4 hnr
                  have hNP : N < wr.heap.size := heap_lt hnr
                  have hzP : w.heap.size < wr.heap.size := heap_lt hzr
                  clear hb3
                  go_upto_region 17 with fail
                  rw [← hw3]
                  clear hw3 n0 n1 n2 n3
                  go_wp2_with fail
                  refine CP.mono ?_
                  rintro e w4 ⟨⟨key, sz⟩, r, ok2, rfl, hgood, hlr, hb4⟩
                  have hn4 := (hb4.block _ (heap_lt hn3)).trans hn3
                  have hz4 := (hb4.block _ (heap_lt hz3)).trans hz3
                  have hP4 := (hb4.block _ (heap_lt hP3)).trans hP3
                  have hB4 := below_chain hB3 hb4 hB3.size
                  have hown4 := own_on hown3 hb4
                  have hS4 : wr.heap.size < w4.heap.size := heap_lt hP4
                  have HS4 := Lib.hid (SevP.next HSP.out h1 hgood)
                  have hvP : ∀ j, (Value.slice va l.length vc).ownBlock = some j → B ≤ j ∧ j < wr.heap.size := fun j hj => HOWN.out.lt j hj
                  have hneP : (Value.slice va l.length vc).ownBlock ≠ some wr.heap.size := fun e => by have := (hvP _ e).2; omega
                  have hNn : N ≠ wr.heap.size := by omega
                  have hzn : w.heap.size ≠ wr.heap.size := by omega
                  obtain ⟨w5, hw5, hn5, hz5, hP5, hB5, hown5, hs5⟩ : ∃ w5, w5 = (w4.setCell ⟨wr.heap.size, 0, none⟩ (S key)).setCell ⟨wr.heap.size, 1, none⟩ (.int .i64 sz) ∧ w5.heap[N]? = some (.cells #[.int .i64 2, .string ⟨#[]⟩, .slice va l.length vc, .slice none 0 0] 36 (0, 0)) ∧ w5.heap[w.heap.size]? = some (.cells #[.int .i64 0, .string ⟨#[]⟩, .slice none 0 0, .slice none 0 0] 36 (0, 0)) ∧ w5.heap[wr.heap.size]? = some (.cells #[S key, .int .i64 sz] 78 (0, 0)) ∧ Below w.heap.size w w5 ∧ w5.ownsRow B 78 2 (.slice va l.length vc) l.length (l.flatMap prtC) ∧ w5.heap.size = w4.heap.size :=
                    ⟨_, rfl, (Below.heap_setCell _ _ _ _ hNn).trans ((Below.heap_setCell _ _ _ _ hNn).trans (hn4)), (Below.heap_setCell _ _ _ _ hzn).trans ((Below.heap_setCell _ _ _ _ hzn).trans (hz4)), heap_set_cell (heap_set_cell (hP4) _) _, below_setT (below_setT (hB4) (Nat.le_of_lt hzP) _ _) (Nat.le_of_lt hzP) _ _, ownsRow_setCell_other (ownsRow_setCell_other (hown4) hneP _) hneP _, by simp⟩
                  obtain ⟨⟨d0, d1⟩, ⟨e0, e1⟩, ⟨r0, r1⟩⟩ := box2 hP4
                  obtain ⟨⟨u0, u1⟩, -, -⟩ := box2 hP5
                  obtain ⟨⟨m0, m1, m2, m3⟩, -, -⟩ := box4 hn5
                  have HN5 := Lib.hid hn5
                  have HS5 := Lib.hid (show B ≤ w5.heap.size by omega)
                  clear hs5
                  have HZ5 := Lib.hid hz5
                  have HB5 := Lib.hid hB5
                  have HVP := Lib.hid hvP
                  clear CP hn4 hz4 hP4 hB4 hown4 hb4 hown3 hn3 hz3 hP3 hB3 hgood hneP hvP hn5 hz5 hB5 hP5
                  go_upto_region 18 with fail
                  rw [← hw5]
                  clear hw5 d0 d1 e0 e1 r0 r1
                  go_wp2_with (at_builtin; refine wpList_append_own _ rfl _ _ 33 rfl B 78 i0 (.agg #[.string ⟨#[]⟩, .int .i64 0]) 2 24 Tryz.underlying33 hi hi0 hi1 hi2 rfl (by decide) _ _ _ rfl (hown5.alloc _) ⟨w5.heap.size, 0, none⟩ 1 1 (prtC (key, sz)) rfl rfl (new_cells _ _ _ _) (by intro u hu; exact prt2_one (key, sz) u hu) (by unfold maxLen; have := HLJ.out; have := HN1.out; omega) (by have := HLJ.out; have := HN1.out; omega) (by have := HS5.out; simp; omega) ?_)
                  intro v' w6 hown6 hgrow _
                  have hn6 := (hgrow.block N (by have := heap_lt HN5.out; simp; omega) (fun e => by have := (HVP.out _ e.symm).1; have := HNB2.out; omega)).trans ((((Below.refl w5.heap.size w5).alloc (Nat.le_refl _) (.cells (prtC (key, sz)).toArray 78)).block N (heap_lt HN5.out)).trans HN5.out)
                  have hz6 := (hgrow.block w.heap.size (by have := heap_lt HZ5.out; simp; omega) (fun e => by have := (HVP.out _ e.symm).1; have := HNB.out; omega)).trans ((((Below.refl w5.heap.size w5).alloc (Nat.le_refl _) (.cells (prtC (key, sz)).toArray 78)).block w.heap.size (heap_lt HZ5.out)).trans HZ5.out)
                  have hB6 : Below w.heap.size w w6 := (HB5.out.alloc HB5.out.size _).grown hgrow (by have := heap_lt HZ5.out; simp; omega) (fun j hj => by have := (HVP.out j hj).1; have := HNB.out; omega)
                  have hO6 : w6.ownsRow B 78 2 v' (l ++ [(key, sz)]).length ((l ++ [(key, sz)]).flatMap prtC) := by simpa [List.flatMap_append] using hown6
                  obtain ⟨va', vc', rfl⟩ := row_slice (Row.of_ownsK (K := 2) (f := prtC) (fun _ => rfl) hO6)
                  have hs6 : B ≤ w6.heap.size := by
                    have := HS5.out
                    have := hgrow.size
                    simp at this
                    omega
                  obtain ⟨⟨v0, v1, v2, v3⟩, ⟨k0, k1, k2, k3⟩, ⟨y0, y1, y2, y3⟩⟩ := box4 hn6
                  have hzN : w.heap.size ≠ N := by have := HNz.out; omega
                  have hwN : w.heap.size ≤ N := by have := HNz.out; omega
                  obtain ⟨w7, hw7, hn7, hz7, hB7, hO7, hs7⟩ : ∃ w7, w7 = w6.setCell ⟨N, 2, none⟩ (.slice va' (l ++ [(key, sz)]).length vc') ∧ w7.heap[N]? = some (.cells #[.int .i64 2, .string ⟨#[]⟩, .slice va' (l ++ [(key, sz)]).length vc', .slice none 0 0] 36 (0, 0)) ∧ w7.heap[w.heap.size]? = some (.cells #[.int .i64 0, .string ⟨#[]⟩, .slice none 0 0, .slice none 0 0] 36 (0, 0)) ∧ Below w.heap.size w w7 ∧ w7.ownsRow B 78 2 (.slice va' (l ++ [(key, sz)]).length vc') (l ++ [(key, sz)]).length ((l ++ [(key, sz)]).flatMap prtC) ∧ B ≤ w7.heap.size :=
                    ⟨_, rfl, heap_set_cell hn6 _, (Below.heap_setCell _ _ _ _ hzN).trans hz6, below_setT hB6 hwN _ _, ownsRow_setCell_below hO6 (a := ⟨N, 2, none⟩) HNB2.out _, by simpa using hs6⟩
                  have HR7 := Lib.hid (And.intro hn7 (And.intro hz7 (And.intro hB7 (And.intro hO7 hs7))))
                  have HLN := Lib.hid (show (l ++ [(key, sz)]).length = j + 1 by rw [List.length_append, HLJ.out]; rfl)
                  generalize hnl : (l ++ [(key, sz)]) = nl at *
                  obtain ⟨nlen, hnlen⟩ : ∃ q, nl.length = q := ⟨_, rfl⟩
                  rw [hnlen] at hw7
                  have HQ := Lib.hid hnlen
                  clear hn7 hz7 hB7 hO7 hs7 hn6 hz6 hB6 hO6 hs6 hown6 hgrow hown5 hzN hwN
                  rw [hnlen]
                  clear hnlen hnl
                  go_wp2
                  rw [← hw7]
                  clear hw7
                  go_roundw
                  case rel =>
                    obtain ⟨hn7, hz7, hB7, hO7, hs7⟩ := HR7.out
                    exact ⟨j + 1, nl, r, ok2, va', vc', by go_num, by omega, HLN.out, rfl, rfl, by omega, hO7, hn7, hz7, hB7, hs7, HS4.out⟩
                  case measure => simp [intOf]; omega
          case neg =>
            have hk2' : ((kd : Int) == 2) = false := by rw [beq_eq_false_iff_ne]; omega
            have HK2 := Lib.hid (show c.toNat ≠ 2 by rw [HKD.out]; exact hk2)
            clear hk2
            obtain ⟨w2, hw2, hn2, hz2, hB2, hN⟩ : ∃ w2, w2 = w1.alloc (.cells #[.int .i64 (kd : Int), .string ⟨#[]⟩, .slice none 0 0, .slice none 0 0] 36) ∧ w2.heap[w1.heap.size]? = some (.cells #[.int .i64 (kd : Int), .string ⟨#[]⟩, .slice none 0 0, .slice none 0 0] 36 (0, 0)) ∧ w2.heap[w.heap.size]? = some (.cells #[.int .i64 0, .string ⟨#[]⟩, .slice none 0 0, .slice none 0 0] 36 (0, 0)) ∧ Below w.heap.size w w2 ∧ w.heap.size < w1.heap.size :=
              ⟨_, rfl, heap_alloc_new _ _, (((Below.refl _ _).alloc (Nat.le_refl _) _).block _ (heap_lt hz1)).trans hz1, hb1.alloc hb1.size _, heap_lt hz1⟩
            rw [hNN] at hn2 hN
            clear hb1 hz1
            obtain ⟨⟨n0, n1, n2, n3⟩, ⟨g0, g1, g2, g3⟩, ⟨p0, p1, p2, p3⟩⟩ := box4 hn2
            obtain ⟨B, hBB⟩ : ∃ B, w2.heap.size = B := ⟨_, rfl⟩
            have HBB := Lib.hid (Nat.le_of_eq hBB.symm)
            have HNB := Lib.hid (show w.heap.size < B by have := heap_lt hn2; omega)
            have HN2 := Lib.hid hn2
            have HZ2 := Lib.hid hz2
            have HB2 := Lib.hid hB2
            have HNz := Lib.hid hN
            have HNB2 := Lib.hid (show N < B by have := heap_lt hn2; omega)
            clear hz2 hB2 hn2 hBB
            obtain ⟨i0, hi, hi0, hi1, hi2⟩ := info_parts infoEnt
            go_enter Tryz.func13, Tryz.ntmps13
            go_upto_region 1 with fail
            rw [← hw1]
            clear hw1
            go_upto_region 4 with fail
            rw [← hw2]
            clear hw2
            go_wp2_with (go_at_call 35; refine (CT _).mono ?_; rintro e w3 ⟨rfl, rfl⟩)
            go_loopw [5, 9, 10] (fun rv okv i wr => ∃ (j : Nat) (l : List Ent) (sk : List UInt8) (okk : Bool) (va : Option Addr) (vc : Nat), i = .int .u64 j ∧ j ≤ n ∧ l.length = j ∧ okv = .bool okk ∧ rv = S sk ∧ sk.length ≤ t.length ∧ wr.ownsRow B 82 4 (.slice va l.length vc) l.length (l.flatMap entC) ∧ wr.heap[N]? = some (.cells #[.int .i64 (kd : Int), .string ⟨#[]⟩, .slice none 0 0, .slice va l.length vc] 36 (0, 0)) ∧ wr.heap[w.heap.size]? = some (.cells #[.int .i64 0, .string ⟨#[]⟩, .slice none 0 0, .slice none 0 0] 36 (0, 0)) ∧ Below w.heap.size w wr ∧ B ≤ wr.heap.size ∧ SevP entQ n (t.drop k) true j l sk okk) (fun _ _ i _ => n - (intOf i).toNat)
            case atStart => exact ⟨0, [], t.drop k, true, none, 0, rfl, Nat.zero_le _, rfl, rfl, rfl, HDL.out, World.ownsRow_nil _ _ _ _, HN2.out, HZ2.out, HB2.out, HBB.out, SevP.start _ _ _ _⟩
            case round =>
              obtain ⟨j, l, sk, okk, va, vc, rfl, hj, hlj, rfl, rfl, hsk, hown, hnr, hzr, hBr, hBs, hsp⟩ := hrel
              have HOWN := Lib.hid hown
              have HSP := Lib.hid hsp
              have HLJ := Lib.hid hlj
              have HNR := Lib.hid hnr
              have HZR := Lib.hid hzr
              have HBR := Lib.hid hBr
              clear hown hsp hlj
              cases okk with
              | false =>
                have HRES := Lib.hid (show readN s = (zNod, 2) by rw [HS.out]; exact no_ent HK1.out HK2.out HNUM.out HSP.out)
                by_cases h1 : j < n
                case pos =>
                  have h1' : (j : Int) < (n : Int) := by omega
                  obtain ⟨⟨c0, c1, c2, c3⟩, ⟨f0, f1, f2, f3⟩, ⟨q0, q1, q2, q3⟩⟩ := box4 hzr
                  obtain ⟨w9, hw9, hz9, hB9⟩ : ∃ w9, w9 = (((wr.setCell ⟨w.heap.size, 0, none⟩ (.int .i64 0)).setCell ⟨w.heap.size, 1, none⟩ (.string ⟨#[]⟩)).setCell ⟨w.heap.size, 2, none⟩ (.slice none 0 0)).setCell ⟨w.heap.size, 3, none⟩ (.slice none 0 0) ∧ w9.heap[w.heap.size]? = some (.cells #[.int .i64 0, .string ⟨#[]⟩, .slice none 0 0, .slice none 0 0] 36 (0, 0)) ∧ Below w.heap.size w w9 :=
                    ⟨_, rfl, heap_set_cell (heap_set_cell (heap_set_cell (heap_set_cell hzr _) _) _) _, below_setT (below_setT (below_setT (below_setT hBr (Nat.le_refl _) _ _) (Nat.le_refl _) _ _) (Nat.le_refl _) _ _) (Nat.le_refl _) _ _⟩
                  have HB9 := Lib.hid hB9
                  have HZ9 := Lib.hid hz9
                  clear hB9 hz9 hzr hBr hnr
                  go_wp2
                  rw [← hw9]
                  obtain ⟨⟨x0, x1, x2, x3⟩, -, -⟩ := box4 HZ9.out
                  refine bodyPost_ret (v := .tuple #[NodV zNod (.slice none 0 0) (.slice none 0 0), .int .i64 2]) (by simp [results, Tryz.results13, go_sem, x0, x1, x2, x3, zNod]) rfl ?_
                  exact ⟨_, _, by rw [HRES.out], by rw [HRES.out]; exact ⟨Row.nil _ _, Row.nil _ _⟩, HB9.out⟩
                case neg =>
                  have h1' : ¬ (j : Int) < (n : Int) := by omega
                  obtain ⟨⟨c0, c1, c2, c3⟩, ⟨f0, f1, f2, f3⟩, ⟨q0, q1, q2, q3⟩⟩ := box4 hzr
                  obtain ⟨w9, hw9, hz9, hB9⟩ : ∃ w9, w9 = (((wr.setCell ⟨w.heap.size, 0, none⟩ (.int .i64 0)).setCell ⟨w.heap.size, 1, none⟩ (.string ⟨#[]⟩)).setCell ⟨w.heap.size, 2, none⟩ (.slice none 0 0)).setCell ⟨w.heap.size, 3, none⟩ (.slice none 0 0) ∧ w9.heap[w.heap.size]? = some (.cells #[.int .i64 0, .string ⟨#[]⟩, .slice none 0 0, .slice none 0 0] 36 (0, 0)) ∧ Below w.heap.size w w9 :=
                    ⟨_, rfl, heap_set_cell (heap_set_cell (heap_set_cell (heap_set_cell hzr _) _) _) _, below_setT (below_setT (below_setT (below_setT hBr (Nat.le_refl _) _ _) (Nat.le_refl _) _ _) (Nat.le_refl _) _ _) (Nat.le_refl _) _ _⟩
                  have HB9 := Lib.hid hB9
                  have HZ9 := Lib.hid hz9
                  clear hB9 hz9 hzr hBr hnr
                  go_wp2
                  rw [← hw9]
                  obtain ⟨⟨x0, x1, x2, x3⟩, -, -⟩ := box4 HZ9.out
                  refine bodyPost_ret (v := .tuple #[NodV zNod (.slice none 0 0) (.slice none 0 0), .int .i64 2]) (by simp [results, Tryz.results13, go_sem, x0, x1, x2, x3, zNod]) rfl ?_
                  exact ⟨_, _, by rw [HRES.out], by rw [HRES.out]; exact ⟨Row.nil _ _, Row.nil _ _⟩, HB9.out⟩
              | true =>
                by_cases h1 : j < n
                case neg =>
                  have h1' : ¬ (j : Int) < (n : Int) := by omega
                  have HE := Lib.hid (show RdEnd s ⟨(kd : Int), [], [], l⟩ by rw [HS.out, ← HKD.out]; exact end_ent HK1.out HK2.out HNUM.out HSP.out (by omega))
                  have HROW := Lib.hid (show NodRow wr ⟨(kd : Int), [], [], l⟩ (.slice none 0 0) (.slice va l.length vc) from ⟨Row.nil _ _, Row.of_ownsK (K := 4) (f := entC) (fun _ => rfl) HOWN.out⟩)
                  have HL1 := Lib.hid (show ([] : List UInt8).length ≤ 1100000 by simp)
                  have HL2 := Lib.hid (show ([] : List Prt).length ≤ 1100000 by simp)
                  have HL3 := Lib.hid (show (l : List Ent).length ≤ 1100000 by have := HLJ.out; have := HN1.out; omega)
                  have HL4 := Lib.hid (show ∀ e ∈ (l : List Ent), e.1.length ≤ 1100000 by intro e he; have := end_small HSP.out (by omega) e he; have := HDL.out; omega)
                  have HV1 := Lib.hid (show ∀ j, (Value.slice none 0 0).ownBlock = some j → w.heap.size ≠ j by intro j h; cases h)
                  have HV2 := Lib.hid (show ∀ j, (Value.slice va l.length vc).ownBlock = some j → w.heap.size ≠ j by intro j h; have := (HOWN.out.lt j h).1; have := HNB.out; omega)
                  clear h1
                  obtain ⟨⟨n0, n1, n2, n3⟩, -, -⟩ := box4 hnr
                  have CF := rfit11_walk (.slice none 0 0) (.slice va l.length vc) ⟨(kd : Int), [], [], l⟩ wr HROW.out HL1.out HL2.out HL3.out HL4.out
                  have CW := fun W' (hb : Below wr.heap.size wr W') => rwrite11_walk (.slice none 0 0) (.slice va l.length vc) ⟨(kd : Int), [], [], l⟩ W' (HROW.out.below hb) HL1.out HL2.out HL3.out HL4.out
                  obtain ⟨m, hm⟩ : ∃ m, writeN ⟨(kd : Int), [], [], l⟩ = m := ⟨_, rfl⟩
                  have HM := Lib.hid hm
                  have HBW := Lib.hid hBr
                  rw [hm] at CW
                  have hNw : N < wr.heap.size := heap_lt hnr
                  clear hm hBr
                  cases hf : fitN ⟨(kd : Int), [], [], l⟩ with
                  | false =>
                    rw [hf] at CF
                    have HRES := Lib.hid (HE.out.2.1 hf)
                    clear hf
                    go_wp2_with fail
                    refine CF.mono ?_
                    rintro e w4 ⟨rfl, hb4⟩
                    have hz4 := (hb4.block _ (heap_lt hzr)).trans hzr
                    have hB4 := below_chain HBW.out hb4 HBW.out.size
                    clear CF CW n0 n1 n2 n3
                    obtain ⟨⟨c0, c1, c2, c3⟩, ⟨f0, f1, f2, f3⟩, ⟨q0, q1, q2, q3⟩⟩ := box4 hz4
                    obtain ⟨w9, hw9, hz9, hB9⟩ : ∃ w9, w9 = (((w4.setCell ⟨w.heap.size, 0, none⟩ (.int .i64 0)).setCell ⟨w.heap.size, 1, none⟩ (.string ⟨#[]⟩)).setCell ⟨w.heap.size, 2, none⟩ (.slice none 0 0)).setCell ⟨w.heap.size, 3, none⟩ (.slice none 0 0) ∧ w9.heap[w.heap.size]? = some (.cells #[.int .i64 0, .string ⟨#[]⟩, .slice none 0 0, .slice none 0 0] 36 (0, 0)) ∧ Below w.heap.size w w9 :=
                      ⟨_, rfl, heap_set_cell (heap_set_cell (heap_set_cell (heap_set_cell hz4 _) _) _) _, below_setT (below_setT (below_setT (below_setT hB4 (Nat.le_refl _) _ _) (Nat.le_refl _) _ _) (Nat.le_refl _) _ _) (Nat.le_refl _) _ _⟩
                    have HB9 := Lib.hid hB9
                    have HZ9 := Lib.hid hz9
                    clear hB9 hz9 hz4 hB4 hb4 hzr
                    go_wp2
                    rw [← hw9]
                    obtain ⟨⟨x0, x1, x2, x3⟩, -, -⟩ := box4 HZ9.out
                    refine bodyPost_ret (v := .tuple #[NodV zNod (.slice none 0 0) (.slice none 0 0), .int .i64 2]) (by simp [results, Tryz.results13, go_sem, x0, x1, x2, x3, zNod]) rfl ?_
                    exact ⟨_, _, by rw [HRES.out], by rw [HRES.out]; exact ⟨Row.nil _ _, Row.nil _ _⟩, HB9.out⟩
                  | true =>
                    rw [hf] at CF
                    have HF := Lib.hid hf
                    clear hf
                    by_cases hms : m = s
                    case neg =>
                      have hq : (m == s) = false := by rw [beq_eq_false_iff_ne]; exact hms
                      have hq2 : (m != s) = true := by rw [bne_iff_ne]; exact hms
                      have HRES := Lib.hid (HE.out.2.2 (by rw [HM.out]; exact hms))
                      clear hms
                      go_wp2_with fail
                      refine CF.mono ?_
                      rintro e w4 ⟨rfl, hb4⟩
                      obtain ⟨⟨o0, o1, o2, o3⟩, -, -⟩ := box4 ((hb4.block _ hNw).trans hnr)
                      have hz4 := (hb4.block _ (heap_lt hzr)).trans hzr
                      have hB4 := below_chain HBW.out hb4 HBW.out.size
                      have C5 := CW w4 hb4
                      clear CF CW n0 n1 n2 n3
                      go_wp2_with fail
                      refine C5.mono ?_
                      rintro e w5 ⟨rfl, hb5⟩
                      have hz5 := (hb5.block _ (heap_lt hz4)).trans hz4
                      have hB5 := below_chain hB4 hb5 hB4.size
                      clear C5 o0 o1 o2 o3
                      obtain ⟨⟨c0, c1, c2, c3⟩, ⟨f0, f1, f2, f3⟩, ⟨q0, q1, q2, q3⟩⟩ := box4 hz5
                      obtain ⟨w9, hw9, hz9, hB9⟩ : ∃ w9, w9 = (((w5.setCell ⟨w.heap.size, 0, none⟩ (.int .i64 0)).setCell ⟨w.heap.size, 1, none⟩ (.string ⟨#[]⟩)).setCell ⟨w.heap.size, 2, none⟩ (.slice none 0 0)).setCell ⟨w.heap.size, 3, none⟩ (.slice none 0 0) ∧ w9.heap[w.heap.size]? = some (.cells #[.int .i64 0, .string ⟨#[]⟩, .slice none 0 0, .slice none 0 0] 36 (0, 0)) ∧ Below w.heap.size w w9 :=
                        ⟨_, rfl, heap_set_cell (heap_set_cell (heap_set_cell (heap_set_cell hz5 _) _) _) _, below_setT (below_setT (below_setT (below_setT hB5 (Nat.le_refl _) _ _) (Nat.le_refl _) _ _) (Nat.le_refl _) _ _) (Nat.le_refl _) _ _⟩
                      have HB9 := Lib.hid hB9
                      have HZ9 := Lib.hid hz9
                      clear hB9 hz9 hz5 hB5 hb5 hz4 hB4 hb4 hzr
                      go_wp2
                      rw [← hw9]
                      obtain ⟨⟨x0, x1, x2, x3⟩, -, -⟩ := box4 HZ9.out
                      refine bodyPost_ret (v := .tuple #[NodV zNod (.slice none 0 0) (.slice none 0 0), .int .i64 2]) (by simp [results, Tryz.results13, go_sem, x0, x1, x2, x3, zNod]) rfl ?_
                      exact ⟨_, _, by rw [HRES.out], by rw [HRES.out]; exact ⟨Row.nil _ _, Row.nil _ _⟩, HB9.out⟩
                    case pos =>
                      have hq : (m == s) = true := by rw [beq_iff_eq]; exact hms
                      have hq2 : (m != s) = false := by rw [hms]; simp
                      have HRES := Lib.hid (HE.out.1 HF.out (by rw [HM.out]; exact hms))
                      clear hms
                      go_wp2_with fail
                      refine CF.mono ?_
                      rintro e w4 ⟨rfl, hb4⟩
                      have hn4 := (hb4.block _ hNw).trans hnr
                      obtain ⟨⟨o0, o1, o2, o3⟩, -, -⟩ := box4 hn4
                      have hz4 := (hb4.block _ (heap_lt hzr)).trans hzr
                      have hB4 := below_chain HBW.out hb4 HBW.out.size
                      have C5 := CW w4 hb4
                      clear CF CW n0 n1 n2 n3
                      go_wp2_with fail
                      refine C5.mono ?_
                      rintro e w5 ⟨rfl, hb5⟩
                      have hn5 := (hb5.block _ (heap_lt hn4)).trans hn4
                      have hz5 := (hb5.block _ (heap_lt hz4)).trans hz4
                      have hB5 := below_chain hB4 hb5 hB4.size
                      have hrow5 := (HROW.out.below hb4).below hb5
                      obtain ⟨⟨s0, s1, s2, s3⟩, -, -⟩ := box4 hn5
                      obtain ⟨⟨c0, c1, c2, c3⟩, ⟨f0, f1, f2, f3⟩, ⟨q0, q1, q2, q3⟩⟩ := box4 hz5
                      obtain ⟨w9, hw9, hz9, hB9, hrow9⟩ : ∃ w9, w9 = (((w5.setCell ⟨w.heap.size, 0, none⟩ (.int .i64 (kd : Int))).setCell ⟨w.heap.size, 1, none⟩ (S ([] : List UInt8))).setCell ⟨w.heap.size, 2, none⟩ (.slice none 0 0)).setCell ⟨w.heap.size, 3, none⟩ (.slice va l.length vc) ∧ w9.heap[w.heap.size]? = some (.cells #[.int .i64 (kd : Int), S ([] : List UInt8), .slice none 0 0, .slice va l.length vc] 36 (0, 0)) ∧ Below w.heap.size w w9 ∧ Hid (NodRow w9 ⟨(kd : Int), [], [], l⟩ (.slice none 0 0) (.slice va l.length vc)) :=
                        ⟨_, rfl, heap_set_cell (heap_set_cell (heap_set_cell (heap_set_cell hz5 _) _) _) _, below_setT (below_setT (below_setT (below_setT hB5 (Nat.le_refl _) _ _) (Nat.le_refl _) _ _) (Nat.le_refl _) _ _) (Nat.le_refl _) _ _,
                          Lib.hid (nod_other (nod_other (nod_other (nod_other hrow5 HV1.out HV2.out _ _) HV1.out HV2.out _ _) HV1.out HV2.out _ _) HV1.out HV2.out _ _)⟩
                      have HB9 := Lib.hid hB9
                      have HZ9 := Lib.hid hz9
                      clear C5 o0 o1 o2 o3 hz9 hB9 hrow5 hn5 hz5 hB5 hn4 hz4 hB4 hb4 hb5
                      go_wp2
                      rw [← hw9]
                      obtain ⟨⟨x0, x1, x2, x3⟩, -, -⟩ := box4 HZ9.out
                      refine bodyPost_ret (v := .tuple #[NodV ⟨(kd : Int), [], [], l⟩ (.slice none 0 0) (.slice va l.length vc), .int .i64 0]) (by simp [results, Tryz.results13, go_sem, x0, x1, x2, x3]) rfl ?_
                      exact ⟨_, _, by rw [HRES.out], by rw [HRES.out]; exact hrow9.out, HB9.out⟩
                case pos =>
                  have h1' : (j : Int) < (n : Int) := by omega
                  obtain ⟨w3, hw3, hb3, hP3⟩ : ∃ w3, w3 = wr.alloc (.cells #[.string ⟨#[]⟩, .int .i64 0, .bool false, .string ⟨#[]⟩] 82) ∧ Below wr.heap.size wr w3 ∧ w3.heap[wr.heap.size]? = some (.cells #[.string ⟨#[]⟩, .int .i64 0, .bool false, .string ⟨#[]⟩] 82 (0, 0)) :=
                    ⟨_, rfl, (Below.refl _ _).alloc (Nat.le_refl _) _, heap_alloc_new _ _⟩
                  have hn3 := (hb3.block _ (heap_lt hnr)).trans hnr
                  have hz3 := (hb3.block _ (heap_lt hzr)).trans hzr
                  have hB3 := below_chain hBr hb3 hBr.size
                  have hown3 := own_on HOWN.out hb3
                  have CP := rentry_walk sk w3 (by omega)
                  obtain ⟨⟨n0, n1, n2, n3⟩, -, -⟩ := box4 hnr
                  have hNP : N < wr.heap.size := heap_lt hnr
                  have hzP : w.heap.size < wr.heap.size := heap_lt hzr
                  clear hb3
                  go_upto_region 20 with fail
                  rw [← hw3]
                  clear hw3 n0 n1 n2 n3
                  go_wp2_with fail
                  refine CP.mono ?_
                  rintro e w4 ⟨⟨nm, kx, xx, ky⟩, r, ok2, rfl, hgood, hlr, hb4⟩
                  have hn4 := (hb4.block _ (heap_lt hn3)).trans hn3
                  have hz4 := (hb4.block _ (heap_lt hz3)).trans hz3
                  have hP4 := (hb4.block _ (heap_lt hP3)).trans hP3
                  have hB4 := below_chain hB3 hb4 hB3.size
                  have hown4 := own_on hown3 hb4
                  have hS4 : wr.heap.size < w4.heap.size := heap_lt hP4
                  have HS4 := Lib.hid (SevP.next HSP.out h1 (rentp_rd hgood))
                  have hvP : ∀ j, (Value.slice va l.length vc).ownBlock = some j → B ≤ j ∧ j < wr.heap.size := fun j hj => HOWN.out.lt j hj
                  have hneP : (Value.slice va l.length vc).ownBlock ≠ some wr.heap.size := fun e => by have := (hvP _ e).2; omega
                  have hNn : N ≠ wr.heap.size := by omega
                  have hzn : w.heap.size ≠ wr.heap.size := by omega
                  obtain ⟨w5, hw5, hn5, hz5, hP5, hB5, hown5, hs5⟩ : ∃ w5, w5 = (((w4.setCell ⟨wr.heap.size, 0, none⟩ (S nm)).setCell ⟨wr.heap.size, 1, none⟩ (.int .i64 kx)).setCell ⟨wr.heap.size, 2, none⟩ (.bool xx)).setCell ⟨wr.heap.size, 3, none⟩ (S ky) ∧ w5.heap[N]? = some (.cells #[.int .i64 (kd : Int), .string ⟨#[]⟩, .slice none 0 0, .slice va l.length vc] 36 (0, 0)) ∧ w5.heap[w.heap.size]? = some (.cells #[.int .i64 0, .string ⟨#[]⟩, .slice none 0 0, .slice none 0 0] 36 (0, 0)) ∧ w5.heap[wr.heap.size]? = some (.cells #[S nm, .int .i64 kx, .bool xx, S ky] 82 (0, 0)) ∧ Below w.heap.size w w5 ∧ w5.ownsRow B 82 4 (.slice va l.length vc) l.length (l.flatMap entC) ∧ w5.heap.size = w4.heap.size :=
                    ⟨_, rfl, (Below.heap_setCell _ _ _ _ hNn).trans ((Below.heap_setCell _ _ _ _ hNn).trans ((Below.heap_setCell _ _ _ _ hNn).trans ((Below.heap_setCell _ _ _ _ hNn).trans (hn4)))), (Below.heap_setCell _ _ _ _ hzn).trans ((Below.heap_setCell _ _ _ _ hzn).trans ((Below.heap_setCell _ _ _ _ hzn).trans ((Below.heap_setCell _ _ _ _ hzn).trans (hz4)))), heap_set_cell (heap_set_cell (heap_set_cell (heap_set_cell (hP4) _) _) _) _, below_setT (below_setT (below_setT (below_setT (hB4) (Nat.le_of_lt hzP) _ _) (Nat.le_of_lt hzP) _ _) (Nat.le_of_lt hzP) _ _) (Nat.le_of_lt hzP) _ _, ownsRow_setCell_other (ownsRow_setCell_other (ownsRow_setCell_other (ownsRow_setCell_other (hown4) hneP _) hneP _) hneP _) hneP _, by simp⟩
                  obtain ⟨⟨d0, d1, d2, d3⟩, ⟨e0, e1, e2, e3⟩, ⟨r0, r1, r2, r3⟩⟩ := box4 hP4
                  obtain ⟨⟨u0, u1, u2, u3⟩, -, -⟩ := box4 hP5
                  obtain ⟨⟨m0, m1, m2, m3⟩, -, -⟩ := box4 hn5
                  have HN5 := Lib.hid hn5
                  have HS5 := Lib.hid (show B ≤ w5.heap.size by omega)
                  clear hs5
                  have HZ5 := Lib.hid hz5
                  have HB5 := Lib.hid hB5
                  have HVP := Lib.hid hvP
                  clear CP hn4 hz4 hP4 hB4 hown4 hb4 hown3 hn3 hz3 hP3 hB3 hgood hneP hvP hn5 hz5 hB5 hP5
                  go_upto_region 21 with fail
                  rw [← hw5]
                  clear hw5 d0 d1 d2 d3 e0 e1 e2 e3 r0 r1 r2 r3
                  go_wp2_with (at_builtin; refine wpList_append_own _ rfl _ _ 34 rfl B 82 i0 (.agg #[.string ⟨#[]⟩, .int .i64 0, .bool false, .string ⟨#[]⟩]) 4 48 Tryz.underlying34 hi hi0 hi1 hi2 rfl (by decide) _ _ _ rfl (hown5.alloc _) ⟨w5.heap.size, 0, none⟩ 1 1 (entC (nm, kx, xx, ky)) rfl rfl (new_cells4 _ _ _ _ _ _) (by intro u hu; exact ent4_one (nm, kx, xx, ky) u hu) (by unfold maxLen; have := HLJ.out; have := HN1.out; omega) (by have := HLJ.out; have := HN1.out; omega) (by have := HS5.out; simp; omega) ?_)
                  intro v' w6 hown6 hgrow _
                  have hn6 := (hgrow.block N (by have := heap_lt HN5.out; simp; omega) (fun e => by have := (HVP.out _ e.symm).1; have := HNB2.out; omega)).trans ((((Below.refl w5.heap.size w5).alloc (Nat.le_refl _) (.cells (entC (nm, kx, xx, ky)).toArray 82)).block N (heap_lt HN5.out)).trans HN5.out)
                  have hz6 := (hgrow.block w.heap.size (by have := heap_lt HZ5.out; simp; omega) (fun e => by have := (HVP.out _ e.symm).1; have := HNB.out; omega)).trans ((((Below.refl w5.heap.size w5).alloc (Nat.le_refl _) (.cells (entC (nm, kx, xx, ky)).toArray 82)).block w.heap.size (heap_lt HZ5.out)).trans HZ5.out)
                  have hB6 : Below w.heap.size w w6 := (HB5.out.alloc HB5.out.size _).grown hgrow (by have := heap_lt HZ5.out; simp; omega) (fun j hj => by have := (HVP.out j hj).1; have := HNB.out; omega)
                  have hO6 : w6.ownsRow B 82 4 v' (l ++ [(nm, kx, xx, ky)]).length ((l ++ [(nm, kx, xx, ky)]).flatMap entC) := by simpa [List.flatMap_append] using hown6
                  obtain ⟨va', vc', rfl⟩ := row_slice (Row.of_ownsK (K := 4) (f := entC) (fun _ => rfl) hO6)
                  have hs6 : B ≤ w6.heap.size := by
                    have := HS5.out
                    have := hgrow.size
                    simp at this
                    omega
                  obtain ⟨⟨v0, v1, v2, v3⟩, ⟨k0, k1, k2, k3⟩, ⟨y0, y1, y2, y3⟩⟩ := box4 hn6
                  have hzN : w.heap.size ≠ N := by have := HNz.out; omega
                  have hwN : w.heap.size ≤ N := by have := HNz.out; omega
                  obtain ⟨w7, hw7, hn7, hz7, hB7, hO7, hs7⟩ : ∃ w7, w7 = w6.setCell ⟨N, 3, none⟩ (.slice va' (l ++ [(nm, kx, xx, ky)]).length vc') ∧ w7.heap[N]? = some (.cells #[.int .i64 (kd : Int), .string ⟨#[]⟩, .slice none 0 0, .slice va' (l ++ [(nm, kx, xx, ky)]).length vc'] 36 (0, 0)) ∧ w7.heap[w.heap.size]? = some (.cells #[.int .i64 0, .string ⟨#[]⟩, .slice none 0 0, .slice none 0 0] 36 (0, 0)) ∧ Below w.heap.size w w7 ∧ w7.ownsRow B 82 4 (.slice va' (l ++ [(nm, kx, xx, ky)]).length vc') (l ++ [(nm, kx, xx, ky)]).length ((l ++ [(nm, kx, xx, ky)]).flatMap entC) ∧ B ≤ w7.heap.size :=
                    ⟨_, rfl, heap_set_cell hn6 _, (Below.heap_setCell _ _ _ _ hzN).trans hz6, below_setT hB6 hwN _ _, ownsRow_setCell_below hO6 (a := ⟨N, 3, none⟩) HNB2.out _, by simpa using hs6⟩
                  have HR7 := Lib.hid (And.intro hn7 (And.intro hz7 (And.intro hB7 (And.intro hO7 hs7))))
                  have HLN := Lib.hid (show (l ++ [(nm, kx, xx, ky)]).length = j + 1 by rw [List.length_append, HLJ.out]; rfl)
                  generalize hnl : (l ++ [(nm, kx, xx, ky)]) = nl at *
                  obtain ⟨nlen, hnlen⟩ : ∃ q, nl.length = q := ⟨_, rfl⟩
                  rw [hnlen] at hw7
                  have HQ := Lib.hid hnlen
                  clear hn7 hz7 hB7 hO7 hs7 hn6 hz6 hB6 hO6 hs6 hown6 hgrow hown5 hzN hwN
                  rw [hnlen]
                  clear hnlen hnl
                  go_wp2
                  rw [← hw7]
                  clear hw7
                  go_roundw
                  case rel =>
                    obtain ⟨hn7, hz7, hB7, hO7, hs7⟩ := HR7.out
                    exact ⟨j + 1, nl, r, ok2, va', vc', by go_num, by omega, HLN.out, rfl, rfl, by omega, hO7, hn7, hz7, hB7, hs7, HS4.out⟩
                  case measure => simp [intOf]; omega
end Go.Proofs.YtaompdnnkfmjhaaGreatDoor
