/- The program's reader of bytes: an entry. -/
import Derived.Test.YtengciicdnkgaaaGreatDoorRdC
namespace Go.Proofs.YtengciicdnkgaaaGreatDoor
open Go.RowKit

theorem u8_and4 : ∀ n : Fin 256, bits .and .u8 ((n.val : Nat) : Int) 4 = ((4 * (n.val / 4 % 2) : Nat) : Int) := by decide +kernel
theorem u8_andNot4 : ∀ n : Fin 256, bits .andNot .u8 ((n.val : Nat) : Int) 4 = ((n.val - 4 * (n.val / 4 % 2) : Nat) : Int) := by decide +kernel
theorem entR_of {s : List UInt8} : entR s = match textR s with | none => none | some (t, s1) => (match s1 with | [] => none | c :: s2 => (match cutR 32 s2 with | none => none | some (k, s3) => some ((t, (kindB c : Int), execB c, k), s3))) := rfl
theorem gro_other {g b : Nat} {w W : World} (h : Gro g w W) (hb : w.heap.size ≤ b) (o : Nat) (v : Value) : Gro g w (W.setCell ⟨b, o, none⟩ v) :=
  ⟨h.os, h.tape, h.output, by simpa using h.size, fun k hk hne => (Below.heap_setCell _ _ _ _ (show k ≠ b by omega)).trans (h.block k hk hne)⟩
theorem rd_other {g b : Nat} {w : World} {s : List UInt8} {ok : Bool} (h : RdAt w g s ok) (hb : g ≠ b) (o : Nat) (v : Value) : RdAt (w.setCell ⟨b, o, none⟩ v) g s ok := by
  obtain ⟨ev, h1, h2⟩ := h
  exact ⟨ev, (Below.heap_setCell _ _ _ _ hb).trans h1, h2⟩

set_option maxHeartbeats 4000000 in
set_option maxRecDepth 100000 in
theorem entry_walk (g : Nat) (s : List UInt8) (ok : Bool) (w : World) (h : RdAt w g s ok) (hs : s.length ≤ 1100000) :
    Calls Tryz.prog 81 #[.pointer (some ⟨g, 0, none⟩)] w (RdPost EntV g (entR s) s ok w) := by
  obtain ⟨w1, hw1, hb1, hz1⟩ : ∃ w1, w1 = w.alloc (.cells #[.string ⟨#[]⟩, .int .i64 0, .bool false, .string ⟨#[]⟩] 81) ∧ Below w.heap.size w w1 ∧ w1.heap[w.heap.size]? = some (.cells #[.string ⟨#[]⟩, .int .i64 0, .bool false, .string ⟨#[]⟩] 81 (0, 0)) :=
    ⟨_, rfl, (Below.refl _ _).alloc (Nat.le_refl _) _, heap_alloc_new _ _⟩
  have hgl : g < w.heap.size := by obtain ⟨_, h1, _⟩ := h; exact heap_lt h1
  have C1 := text_walk g s ok w1 (h.below hb1) hs
  have HG1 := Lib.hid (gro_of (g := g) hb1)
  clear hb1
  go_enter Tryz.func81, Tryz.ntmps81
  go_upto_region 1 with fail
  rw [← hw1]
  clear hw1
  go_wp2_with fail
  refine C1.mono ?_
  rintro e w2 ⟨t, s1, ok1, rfl, hr2, hg2, hl2, hp2⟩
  have hz2 := (hg2.block _ (heap_lt hz1) (by simp; omega)).trans hz1
  have HG2 := Lib.hid (World.grownBy.trans HG1.out hg2)
  have HP2 := Lib.hid hp2
  have C2 := kind_walk g s1 ok1 w2 hr2 (by omega)
  clear C1 hr2 hp2 hg2 hz1
  go_wp2_with fail
  refine C2.mono ?_
  rintro e w3 ⟨c, s2, ok2, rfl, hr3, hg3, hl3, hp3⟩
  have hz3 := (hg3.block _ (heap_lt hz2) (by simp; omega)).trans hz2
  have HG3 := Lib.hid (World.grownBy.trans HG2.out hg3)
  have HP3 := Lib.hid hp3
  have C3 := cut_walk g 32 s2 ok2 w3 hr3 (by omega) (by omega)
  clear C2 hr3 hp3 hg3 hz2
  obtain ⟨A, hA⟩ : ∃ A, 4 * (c.toNat / 4 % 2) = A := ⟨_, rfl⟩
  have ha := u8_and4 ⟨c.toNat, c.toNat_lt⟩
  have hn := u8_andNot4 ⟨c.toNat, c.toNat_lt⟩
  simp only [hA] at ha hn
  have hx : ((A : Int) != 0) = execB c := by
    unfold execB
    rw [Bool.eq_iff_iff, bne_iff_ne, beq_iff_eq]; omega
  have hkb : ((c.toNat - A : Nat) : Int) = (kindB c : Nat) := by rw [← hA]; rfl
  rw [hkb] at hn
  have hkw : IntKind.i64.wrap (kindB c : Int) = (kindB c : Int) := by
    rw [IntKind.wrap_i64]; have := c.toNat_lt; unfold kindB; omega
  have HKE := Lib.hid (fun (q : Nat) (x : Bool) (h1 : kindB c = q) (h2 : execB c = x) => (⟨h1, h2⟩ : kindB c = q ∧ execB c = x))
  obtain ⟨kb, hkbq⟩ : ∃ kb, kindB c = kb := ⟨_, rfl⟩
  obtain ⟨xb, hxbq⟩ : ∃ xb, execB c = xb := ⟨_, rfl⟩
  have HKB := Lib.hid hkbq
  have HXB := Lib.hid hxbq
  rw [hkbq] at hn hkw
  rw [hxbq] at hx
  clear hkbq hxbq hkb HKE hA
  go_wp2_with fail
  refine C3.mono ?_
  rintro e w4 ⟨k, s3, ok3, rfl, hr4, hg4, hl4, hp4⟩
  have hz4 := (hg4.block _ (heap_lt hz3) (by simp; omega)).trans hz3
  have HG4 := Lib.hid (World.grownBy.trans HG3.out hg4)
  have HP4 := Lib.hid hp4
  obtain ⟨⟨z0, z1, z2, z3⟩, ⟨f0, f1, f2, f3⟩, ⟨q0, q1, q2, q3⟩⟩ := box4 hz4
  obtain ⟨w5, hw5, hz5, hr5, hg5⟩ : ∃ w5, w5 = (((w4.setCell ⟨w.heap.size, 0, none⟩ (S t)).setCell ⟨w.heap.size, 1, none⟩ (.int .i64 (kb : Int))).setCell ⟨w.heap.size, 2, none⟩ (.bool xb)).setCell ⟨w.heap.size, 3, none⟩ (S k) ∧ w5.heap[w.heap.size]? = some (.cells #[S t, .int .i64 (kb : Int), .bool xb, S k] 81 (0, 0)) ∧ RdAt w5 g s3 ok3 ∧ Gro g w w5 :=
    ⟨_, rfl, heap_set_cell (heap_set_cell (heap_set_cell (heap_set_cell hz4 _) _) _) _, rd_other (rd_other (rd_other (rd_other hr4 (by omega) _ _) (by omega) _ _) (by omega) _ _) (by omega) _ _,
      gro_other (gro_other (gro_other (gro_other HG4.out (Nat.le_refl _) _ _) (Nat.le_refl _) _ _) (Nat.le_refl _) _ _) (Nat.le_refl _) _ _⟩
  have HR5 := Lib.hid hr5
  have HG5 := Lib.hid hg5
  have HW5 := Lib.hid hw5
  clear C3 hr4 hp4 hg4 hz3 hr5 hg5 hw5
  go_wp2
  rw [← HW5.out]
  obtain ⟨⟨x0, x1, x2, x3⟩, -, -⟩ := box4 hz5
  refine bodyPost_ret (v := EntV (t, (kb : Int), xb, k)) (by simp [results, Tryz.results81, go_sem, x0, x1, x2, x3]) rfl ?_
  refine ⟨(t, (kb : Int), xb, k), s3, ok3, rfl, HR5.out, HG5.out, by omega, fun e => HP4.out.1 (HP3.out.1 (HP2.out.1 e)), fun e => ?_⟩
  have h1 := HP2.out.2 e
  rw [entR_of]
  cases hq : textR s with
  | none => rw [hq] at h1; exact HP4.out.1 (HP3.out.1 h1)
  | some q =>
    obtain ⟨qa, qs⟩ := q
    rw [hq] at h1
    obtain ⟨e1, rfl, rfl⟩ := (show ok1 = true ∧ t = qa ∧ s1 = qs from h1)
    have h2 := HP3.out.2 e1
    simp only
    cases s1 with
    | nil => exact HP4.out.1 h2
    | cons c' s1 =>
      obtain ⟨e2, rfl, rfl⟩ := (show ok2 = true ∧ c = c' ∧ s2 = s1 from h2)
      have h3 := HP4.out.2 e2
      simp only
      cases hq2 : cutR 32 s2 with
      | none => rw [hq2] at h3; exact h3
      | some q2 =>
        obtain ⟨qn, qr⟩ := q2
        rw [hq2] at h3
        obtain ⟨e3, rfl, rfl⟩ := (show ok3 = true ∧ k = qn ∧ s3 = qr from h3)
        exact ⟨e3, by rw [HKB.out, HXB.out], rfl⟩
end Go.Proofs.YtengciicdnkgaaaGreatDoor
