/- The program's reader of bytes: must, cut, kind. -/
import Derived.Test.YtkejdbidomlonaaGreatDoorJObjAt
import Derived.Test.YtkejdbidomlonaaGreatDoorJPTText
namespace Go.Proofs.YtkejdbidomlonaaGreatDoor
open Go.RowKit

def ErrV (ok : Bool) (ev : Value) : Prop := (ok = true ∧ ev = .nilIface) ∨ (ok = false ∧ ∃ b, ev = .iface 136 (.pointer (some ⟨b, 0, none⟩)))

set_option maxHeartbeats 1000000 in
set_option maxRecDepth 100000 in
theorem must_walk (c : Int) (w : World) :
    Calls Tryz.prog 108 #[.int .i64 c] w fun e w' => ∃ ev, e = .returned ev ∧ ErrV (c == 0) ev ∧ Below w.heap.size w w' := by
  cases h : (c == 0) with
  | true =>
    go_enter Tryz.func108, Tryz.ntmps108
    go_wp2
    go_ret
    exact ⟨_, rfl, .inl ⟨rfl, rfl⟩, Below.refl _ _⟩
  | false =>
    go_enter Tryz.func108, Tryz.ntmps108
    go_wp2
    go_ret
    exact ⟨_, rfl, .inr ⟨rfl, _, rfl⟩, (Below.refl _ _).alloc (Nat.le_refl _) _⟩

theorem rd_set0 {w : World} {g : Nat} {s s' : List UInt8} {ev : Value} (h : w.heap[g]? = some (.cells #[S s, ev] 134 (0, 0))) : (w.setCell ⟨g, 0, none⟩ (S s')).heap[g]? = some (.cells #[S s', ev] 134 (0, 0)) := by
  have := heap_set_cell (o := 0) h (S s')
  simpa using this
theorem rd_set1 {w : World} {g : Nat} {s : List UInt8} {ev ev' : Value} (h : w.heap[g]? = some (.cells #[S s, ev] 134 (0, 0))) : (w.setCell ⟨g, 1, none⟩ ev').heap[g]? = some (.cells #[S s, ev'] 134 (0, 0)) := by
  have := heap_set_cell (o := 1) h ev'
  simpa using this


/-- What a reader's method leaves. -/
def RdPost {α : Type} (enc : α → Value) (g : Nat) (r : Option (α × List UInt8)) (s : List UInt8) (ok : Bool) (w : World) (e : Ending) (w' : World) : Prop :=
  ∃ (x : α) (s' : List UInt8) (ok' : Bool), e = .returned (enc x) ∧ RdAt w' g s' ok' ∧ Gro g w w' ∧ s'.length ≤ s.length ∧ RdP r ok x s' ok'

set_option maxHeartbeats 2000000 in
set_option maxRecDepth 100000 in
theorem cut_walk (g N : Nat) (s : List UInt8) (ok : Bool) (w : World) (h : RdAt w g s ok) (_hs : s.length ≤ 1100000) (hN : N ≤ 2000000) :
    Calls Tryz.prog 131 #[.pointer (some ⟨g, 0, none⟩), .int .i64 N] w (RdPost S g (cutR N s) s ok w) := by
  obtain ⟨ev, hb, hev⟩ := h
  obtain ⟨⟨z0, z1⟩, ⟨f0, f1⟩, ⟨s0, s1⟩⟩ := box2 hb
  have HB := Lib.hid hb
  clear hb
  rcases hev with ⟨rfl, rfl⟩ | ⟨rfl, b, rfl⟩
  · by_cases hl : s.length < N
    · have hl' : (s.length : Int) < (N : Int) := by omega
      have HN := Lib.hid (show cutR N s = none from if_pos hl)
      clear hl
      go_enter Tryz.func131, Tryz.ntmps131
      go_wp2_with fail
      refine (must_walk 1 w).mono ?_
      rintro e w1 ⟨ev1, rfl, he1, hb1⟩
      rcases he1 with ⟨he1, -⟩ | ⟨-, b1, rfl⟩
      · cases he1
      have hb2 := (hb1.block g (heap_lt HB.out)).trans HB.out
      have HB2 := Lib.hid hb2
      obtain ⟨⟨y0, y1⟩, ⟨f0', f1'⟩, ⟨s0', s1'⟩⟩ := box2 hb2
      have hb3 := rd_set1 (ev' := .iface 136 (.pointer (some ⟨b1, 0, none⟩))) hb2
      have HB3 := Lib.hid hb3
      obtain ⟨⟨x0, x1⟩, -, -⟩ := box2 hb3
      have HG := Lib.hid (gro_set (gro_of (g := g) hb1) 1 (.iface 136 (.pointer (some ⟨b1, 0, none⟩))))
      clear hb2 hb3 hb1
      go_wp2
      go_ret
      exact ⟨[], s, false, rfl, ⟨_, HB3.out, .inr ⟨rfl, _, rfl⟩⟩, HG.out, Nat.le_refl _, RdP.none HN.out⟩
    · have hl' : ¬ (s.length : Int) < (N : Int) := by omega
      have hl2 : (N : Int) ≤ (s.length : Int) := by omega
      have HN := Lib.hid (show cutR N s = some (s.take N, s.drop N) from if_neg hl)
      have hc1 : ({ data := s.toArray } : ByteArray).extract 0 N = ⟨(s.take N).toArray⟩ := by rw [ba_cut, cutL_head]
      have hc2 : ({ data := s.toArray } : ByteArray).extract N s.length = ⟨(s.drop N).toArray⟩ := by rw [ba_cut, cutL_tail _ _ _ (Nat.le_refl _)]
      have HL := Lib.hid (show (s.take N).length ≤ s.length ∧ (s.drop N).length ≤ s.length by rw [List.length_take, List.length_drop]; omega)
      have HB3 := Lib.hid (rd_set0 (s' := s.drop N) HB.out)
      have HG := Lib.hid (gro_set (World.grownBy.refl w (some g)) 0 (S (s.drop N)))
      generalize s.take N = a at *
      generalize s.drop N = r at *
      clear hl
      go_enter Tryz.func131, Tryz.ntmps131
      go_wp2
      go_ret
      exact ⟨a, r, true, rfl, ⟨_, HB3.out, .inl ⟨rfl, rfl⟩⟩, HG.out, HL.out.2, RdP.some HN.out⟩
  · go_enter Tryz.func131, Tryz.ntmps131
    go_wp2
    go_ret
    exact ⟨[], s, false, rfl, ⟨_, HB.out, .inr ⟨rfl, _, rfl⟩⟩, World.grownBy.refl _ _, Nat.le_refl _, RdP.bad⟩

def firstR : List UInt8 → Option (UInt8 × List UInt8)
  | [] => Option.none
  | c :: r => Option.some (c, r)
set_option maxHeartbeats 2000000 in
set_option maxRecDepth 100000 in
theorem kind_walk (g : Nat) (s : List UInt8) (ok : Bool) (w : World) (h : RdAt w g s ok) (hs : s.length ≤ 1100000) :
    Calls Tryz.prog 102 #[.pointer (some ⟨g, 0, none⟩)] w (RdPost (fun c : UInt8 => .int .u8 (c.toNat : Nat)) g (firstR s) s ok w) := by
  have C := cut_walk g 1 s ok w h hs (by omega)
  go_enter Tryz.func102, Tryz.ntmps102
  go_wp2_with fail
  refine C.mono ?_
  rintro e w1 ⟨t, s', ok', rfl, hr, hg, hl, hp⟩
  clear C
  have HP := Lib.hid hp
  have HG := Lib.hid hg
  have HR := Lib.hid hr
  clear hp hg hr
  cases t with
  | nil =>
    go_wp2
    go_ret
    refine ⟨0, s', ok', rfl, HR.out, HG.out, hl, HP.out.1, fun e => ?_⟩
    have h2 := HP.out.2 e
    cases s with
    | nil => exact h2
    | cons c r => obtain ⟨_, h3, _⟩ := (show ok' = true ∧ ([] : List UInt8) = [c] ∧ s' = r from h2); cases h3
  | cons c t =>
    have hne : ((c :: t) == ([] : List UInt8)) = false := rfl
    go_wp2
    go_ret
    refine ⟨c, s', ok', rfl, HR.out, HG.out, hl, HP.out.1, fun e => ?_⟩
    have h2 := HP.out.2 e
    cases s with
    | nil => exact h2
    | cons c' r => obtain ⟨h4, h3, h5⟩ := (show ok' = true ∧ (c :: t) = [c'] ∧ s' = r from h2); cases h3; exact ⟨h4, rfl, h5⟩

set_option maxHeartbeats 4000000 in
set_option maxRecDepth 100000 in
theorem number_walk (g m : Nat) (s : List UInt8) (ok : Bool) (w : World) (h : RdAt w g s ok) (hs : s.length ≤ 1100000) (hm : m ≤ 2000000) :
    Calls Tryz.prog 132 #[.pointer (some ⟨g, 0, none⟩), .int .u64 m] w (RdPost (fun n : Nat => .int .i64 (n : Int)) g (numR m s) s ok w) := by
  obtain ⟨ev, hb, hev⟩ := h
  have HB := Lib.hid hb
  obtain ⟨⟨z0, z1⟩, -, -⟩ := box2 hb
  clear hb
  have CT := ptake_walk s w hs
  have hok := takeV_ok (l := s)
  have HNO := Lib.hid (fun h : (takeV s).2.2 ≠ 0 ∨ m < (takeV s).1 => (show numR m s = none from if_pos h))
  have HYES := Lib.hid (fun h : ¬ ((takeV s).2.2 ≠ 0 ∨ m < (takeV s).1) => (show numR m s = some ((takeV s).1, s.drop (takeV s).2.1) from if_neg h))
  generalize takeV s = tv at *
  obtain ⟨n, k, c⟩ := tv
  simp only at CT hok HNO HYES
  go_enter Tryz.func132, Tryz.ntmps132
  go_wp2_with fail
  refine CT.mono ?_
  rintro e w1 ⟨rfl, hb1⟩
  clear CT z0 z1
  have hz1 := (hb1.block g (heap_lt HB.out)).trans HB.out
  have HZ1 := Lib.hid hz1
  have HG1 := Lib.hid (gro_of (g := g) hb1)
  obtain ⟨⟨z0, z1⟩, ⟨f0, f1⟩, ⟨q0, q1⟩⟩ := box2 hz1
  clear hz1 hb1
  rcases hev with ⟨rfl, rfl⟩ | ⟨rfl, b, rfl⟩
  case inr =>
    go_wp2
    go_ret
    exact ⟨0, s, false, rfl, ⟨_, HZ1.out, .inr ⟨rfl, _, rfl⟩⟩, HG1.out, Nat.le_refl _, RdP.bad⟩
  case inl =>
  go_wp2_with fail
  refine (must_walk c w1).mono ?_
  rintro e w2 ⟨ev2, rfl, he2, hb2⟩
  have hz2 := (hb2.block g (heap_lt HZ1.out)).trans HZ1.out
  have hz3 := rd_set1 (ev' := ev2) hz2
  have HZ3 := Lib.hid hz3
  have HG3 := Lib.hid (gro_set (gro_chain HG1.out hb2) 1 ev2)
  obtain ⟨⟨y0, y1⟩, ⟨g0, g1⟩, ⟨r0, r1⟩⟩ := box2 hz2
  obtain ⟨w3, hw3, hz4⟩ : ∃ w3, w3 = w2.setCell ⟨g, 1, none⟩ ev2 ∧ w3.heap[g]? = some (.cells #[S s, ev2] 134 (0, 0)) := ⟨_, rfl, hz3⟩
  rw [← hw3] at HG3 HZ3
  clear z0 z1 f0 f1 q0 q1 hz2 hz3 hb2
  rcases he2 with ⟨hc, rfl⟩ | ⟨hc, b2, rfl⟩
  · have hc0 : c = 0 := by simpa using hc
    subst hc0
    obtain ⟨k1, k2, k3⟩ := hok rfl
    go_upto_region 4 with fail
    rw [← hw3]
    clear hw3 y0 y1 g0 g1 r0 r1
    obtain ⟨⟨y0, y1⟩, ⟨g0, g1⟩, ⟨r0, r1⟩⟩ := box2 hz4
    by_cases hmn : m < n
    · have hmn' : (m : Int) < (n : Int) := by omega
      have HF := Lib.hid (HNO.out (.inr hmn))
      clear hmn
      go_wp2_with fail
      refine (must_walk 4 w3).mono ?_
      rintro e w4 ⟨ev4, rfl, he4, hb4⟩
      rcases he4 with ⟨he4, -⟩ | ⟨-, b4, rfl⟩
      · cases he4
      have hz5 := (hb4.block g (heap_lt hz4)).trans hz4
      have HZ6 := Lib.hid (rd_set1 (ev' := .iface 136 (.pointer (some ⟨b4, 0, none⟩))) hz5)
      have HG6 := Lib.hid (gro_set (gro_chain HG3.out hb4) 1 (.iface 136 (.pointer (some ⟨b4, 0, none⟩))))
      obtain ⟨⟨x0, x1⟩, ⟨d0, d1⟩, ⟨p0, p1⟩⟩ := box2 hz5
      obtain ⟨⟨v0, v1⟩, -, -⟩ := box2 HZ6.out
      clear y0 y1 g0 g1 r0 r1 hz5 hb4
      go_wp2
      go_ret
      exact ⟨0, s, false, rfl, ⟨_, HZ6.out, .inr ⟨rfl, _, rfl⟩⟩, HG6.out, Nat.le_refl _, RdP.none HF.out⟩
    · have hmn' : ¬ (m : Int) < (n : Int) := by omega
      have HF := Lib.hid (HYES.out (by simp; omega))
      have hk' : (k : Int) ≤ (s.length : Int) := by omega
      have hc2 : ({ data := s.toArray } : ByteArray).extract k s.length = ⟨(s.drop k).toArray⟩ := by rw [ba_cut, cutL_tail _ _ _ (Nat.le_refl _)]
      have hnw : IntKind.i64.wrap (n : Int) = (n : Int) := by rw [IntKind.wrap_i64]; omega
      have HL := Lib.hid (show (s.drop k).length ≤ s.length by rw [List.length_drop]; omega)
      have HZ6 := Lib.hid (rd_set0 (s' := s.drop k) hz4)
      have HG6 := Lib.hid (gro_set HG3.out 0 (S (s.drop k)))
      generalize s.drop k = r at *
      clear hmn
      go_wp2
      go_ret
      exact ⟨n, r, true, rfl, ⟨_, HZ6.out, .inl ⟨rfl, rfl⟩⟩, HG6.out, HL.out, RdP.some HF.out⟩
  · have hc0 : c ≠ 0 := by simpa using hc
    have HF := Lib.hid (HNO.out (.inl hc0))
    clear hc hc0 hok
    go_upto_region 4 with fail
    rw [← hw3]
    clear hw3 y0 y1 g0 g1 r0 r1
    obtain ⟨⟨y0, y1⟩, ⟨g0, g1⟩, ⟨r0, r1⟩⟩ := box2 hz4
    go_wp2
    go_ret
    exact ⟨0, s, false, rfl, ⟨_, HZ3.out, .inr ⟨rfl, _, rfl⟩⟩, HG3.out, Nat.le_refl _, RdP.none HF.out⟩

theorem takeText_zero {l : List UInt8} (h : (takeText l).2.2 ≠ 0) : (takeText l).2.1 = 0 := by
  unfold takeText at h ⊢
  split
  · rfl
  · split
    · rfl
    · split
      · rfl
      · rename_i h1 h2 h3
        rw [if_neg h1, if_neg h2, if_neg h3] at h
        exact absurd rfl h
set_option maxHeartbeats 4000000 in
set_option maxRecDepth 100000 in
theorem text_walk (g : Nat) (s : List UInt8) (ok : Bool) (w : World) (h : RdAt w g s ok) (hs : s.length ≤ 1100000) :
    Calls Tryz.prog 133 #[.pointer (some ⟨g, 0, none⟩)] w (RdPost S g (textR s) s ok w) := by
  obtain ⟨ev, hb, hev⟩ := h
  have HB := Lib.hid hb
  obtain ⟨⟨z0, z1⟩, -, -⟩ := box2 hb
  clear hb
  have CT := ptaketext_walk s w hs
  have hok := takeText_ok (l := s)
  have HNO := Lib.hid (fun h : (takeText s).2.2 ≠ 0 => (show textR s = none from if_pos h))
  have hzero := takeText_zero (l := s)
  have HYES := Lib.hid (fun h : ¬ ((takeText s).2.2 ≠ 0) => (show textR s = some ((takeText s).1, s.drop (takeText s).2.1) from if_neg h))
  generalize takeText s = tv at *
  obtain ⟨n, k, c⟩ := tv
  simp only at CT hok HNO HYES hzero
  have hkl : k ≤ 2000000 := by
    by_cases h : c = 0
    · have := (hok h).1; omega
    · have := hzero h; omega
  clear hzero
  go_enter Tryz.func133, Tryz.ntmps133
  go_wp2_with fail
  refine CT.mono ?_
  rintro e w1 ⟨rfl, hb1⟩
  clear CT z0 z1
  have hz1 := (hb1.block g (heap_lt HB.out)).trans HB.out
  have HZ1 := Lib.hid hz1
  have HG1 := Lib.hid (gro_of (g := g) hb1)
  obtain ⟨⟨z0, z1⟩, ⟨f0, f1⟩, ⟨q0, q1⟩⟩ := box2 hz1
  clear hz1 hb1
  rcases hev with ⟨rfl, rfl⟩ | ⟨rfl, b, rfl⟩
  case inr =>
    have CC := cut_walk g k s false w1 ⟨_, HZ1.out, .inr ⟨rfl, _, rfl⟩⟩ hs hkl
    go_wp2_with fail
    refine CC.mono ?_
    rintro e w2 ⟨t, s', ok', rfl, hr2, hg2, hl2, hp2⟩
    have HR2 := Lib.hid hr2
    have HG2 := Lib.hid (World.grownBy.trans HG1.out hg2)
    have HP2 := Lib.hid hp2
    clear CC hr2 hg2 hp2
    go_wp2
    go_ret
    exact ⟨n, s', ok', rfl, HR2.out, HG2.out, hl2, HP2.out.1, fun e => by cases e⟩
  case inl =>
  go_wp2_with fail
  refine (must_walk c w1).mono ?_
  rintro e w2 ⟨ev2, rfl, he2, hb2⟩
  have hz2 := (hb2.block g (heap_lt HZ1.out)).trans HZ1.out
  have hz3 := rd_set1 (ev' := ev2) hz2
  have HG3 := Lib.hid (gro_set (gro_chain HG1.out hb2) 1 ev2)
  obtain ⟨⟨y0, y1⟩, ⟨g0, g1⟩, ⟨r0, r1⟩⟩ := box2 hz2
  obtain ⟨w3, hw3, hz4⟩ : ∃ w3, w3 = w2.setCell ⟨g, 1, none⟩ ev2 ∧ w3.heap[g]? = some (.cells #[S s, ev2] 134 (0, 0)) := ⟨_, rfl, hz3⟩
  rw [← hw3] at HG3
  clear z0 z1 f0 f1 q0 q1 hz2 hz3 hb2
  have CC := cut_walk g k s (c == 0) w3 ⟨ev2, hz4, he2⟩ hs hkl
  rcases he2 with ⟨-, rfl⟩ | ⟨-, b2, rfl⟩
  all_goals
    go_upto_region 4 with fail
    rw [← hw3]
    clear hw3 y0 y1 g0 g1 r0 r1 hz4
    go_wp2_with fail
    refine CC.mono ?_
    rintro e w4 ⟨t, s', ok', rfl, hr4, hg4, hl4, hp4⟩
    have HR4 := Lib.hid hr4
    have HG4 := Lib.hid (World.grownBy.trans HG3.out hg4)
    have HP4 := Lib.hid hp4
    clear CC hr4 hg4 hp4
    go_wp2
    go_ret
    refine ⟨n, s', ok', rfl, HR4.out, HG4.out, hl4, fun e => (by cases e), fun _ => ?_⟩
    by_cases hc : c = 0
    · have h1 := HP4.out.2 (by rw [hc]; rfl)
      obtain ⟨k1, k2⟩ := hok hc
      rw [show cutR k s = some (s.take k, s.drop k) from if_neg (by omega)] at h1
      rw [HYES.out (fun h => h hc)]
      exact ⟨h1.1, rfl, h1.2.2⟩
    · rw [HNO.out hc]
      exact HP4.out.1 (by rw [beq_eq_false_iff_ne]; exact hc)

set_option maxHeartbeats 2000000 in
set_option maxRecDepth 100000 in
theorem part_walk (g : Nat) (s : List UInt8) (ok : Bool) (w : World) (h : RdAt w g s ok) (hs : s.length ≤ 1100000) :
    Calls Tryz.prog 104 #[.pointer (some ⟨g, 0, none⟩)] w (RdPost PrtV g (partR s) s ok w) := by
  obtain ⟨w1, hw1, hb1, hz1⟩ : ∃ w1, w1 = w.alloc (.cells #[.string ⟨#[]⟩, .int .i64 0] 100) ∧ Below w.heap.size w w1 ∧ w1.heap[w.heap.size]? = some (.cells #[.string ⟨#[]⟩, .int .i64 0] 100 (0, 0)) :=
    ⟨_, rfl, (Below.refl _ _).alloc (Nat.le_refl _) _, heap_alloc_new _ _⟩
  have hgl : g < w.heap.size := by obtain ⟨_, h1, _⟩ := h; exact heap_lt h1
  have C1 := cut_walk g 32 s ok w1 (h.below hb1) hs (by omega)
  have HG1 := Lib.hid (gro_of (g := g) hb1)
  clear hb1
  go_enter Tryz.func104, Tryz.ntmps104
  go_upto_region 1 with fail
  rw [← hw1]
  clear hw1
  go_wp2_with fail
  refine C1.mono ?_
  rintro e w2 ⟨k, s1, ok1, rfl, hr2, hg2, hl2, hp2⟩
  have hz2 : w2.heap[w.heap.size]? = some (.cells #[.string ⟨#[]⟩, .int .i64 0] 100 (0, 0)) := (hg2.block _ (heap_lt hz1) (by simp; omega)).trans hz1
  have HG2 := Lib.hid (World.grownBy.trans HG1.out hg2)
  have HP2 := Lib.hid hp2
  have C2 := number_walk g 4096 s1 ok1 w2 hr2 (by omega) (by omega)
  clear C1 hr2 hp2
  go_wp2_with fail
  refine C2.mono ?_
  rintro e w3 ⟨n, s2, ok2, rfl, hr3, hg3, hl3, hp3⟩
  have hz3 : w3.heap[w.heap.size]? = some (.cells #[.string ⟨#[]⟩, .int .i64 0] 100 (0, 0)) := (hg3.block _ (heap_lt hz2) (by simp; omega)).trans hz2
  have HG3 := Lib.hid (World.grownBy.trans HG2.out hg3)
  have HP3 := Lib.hid hp3
  obtain ⟨⟨z0, z1⟩, ⟨f0, f1⟩, ⟨q0, q1⟩⟩ := box2 hz3
  obtain ⟨w4, hw4, hz4, hr4, hg4⟩ : ∃ w4, w4 = (w3.setCell ⟨w.heap.size, 0, none⟩ (S k)).setCell ⟨w.heap.size, 1, none⟩ (.int .i64 (n : Int)) ∧ w4.heap[w.heap.size]? = some (.cells #[S k, .int .i64 (n : Int)] 100 (0, 0)) ∧ RdAt w4 g s2 ok2 ∧ Gro g w w4 := by
    refine ⟨_, rfl, heap_set_cell (heap_set_cell hz3 _) _, ?_, ?_⟩
    · obtain ⟨ev, h1, h2⟩ := hr3
      exact ⟨ev, ((Below.heap_setCell _ _ _ _ (show g ≠ w.heap.size by omega)).trans ((Below.heap_setCell _ _ _ _ (show g ≠ w.heap.size by omega)).trans h1)), h2⟩
    · have hB : ∀ (W : World) (o : Nat) (v : Value), Gro g w W → Gro g w (W.setCell ⟨w.heap.size, o, none⟩ v) := fun W o v hW =>
        ⟨hW.os, hW.tape, hW.output, by simpa using hW.size, fun k hk hne => (Below.heap_setCell _ _ _ _ (show k ≠ w.heap.size by omega)).trans (hW.block k hk hne)⟩
      exact hB _ _ _ (hB _ _ _ HG3.out)
  have HR4 := Lib.hid hr4
  have HG4 := Lib.hid hg4
  have HW4 := Lib.hid hw4
  clear C2 hr3 hp3 hg3 hg2 hz2 hz1 hr4 hg4 hw4
  go_wp2
  rw [← HW4.out]
  obtain ⟨⟨x0, x1⟩, -, -⟩ := box2 hz4
  refine bodyPost_ret (v := PrtV (k, (n : Int))) (by simp [results, Tryz.results104, go_sem, x0, x1]) rfl ?_
  refine ⟨(k, (n : Int)), s2, ok2, rfl, HR4.out, HG4.out, by omega, fun e => HP3.out.1 (HP2.out.1 e), fun e => ?_⟩
  have h1 := HP2.out.2 e
  rw [partR_of]
  cases hq : cutR 32 s with
  | none => rw [hq] at h1; exact HP3.out.1 h1
  | some q =>
    obtain ⟨qa, qs⟩ := q
    rw [hq] at h1
    obtain ⟨e1, rfl, rfl⟩ := (show ok1 = true ∧ k = qa ∧ s1 = qs from h1)
    have h2 := HP3.out.2 e1
    simp only
    cases hq2 : numR 4096 s1 with
    | none => rw [hq2] at h2; exact h2
    | some q2 =>
      obtain ⟨qn, qr⟩ := q2
      rw [hq2] at h2
      obtain ⟨e2, rfl, rfl⟩ := (show ok2 = true ∧ n = qn ∧ s2 = qr from h2)
      exact ⟨e2, rfl, rfl⟩
end Go.Proofs.YtkejdbidomlonaaGreatDoor
