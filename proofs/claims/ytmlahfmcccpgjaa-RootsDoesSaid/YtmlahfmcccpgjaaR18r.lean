/- The reference's read of a record. -/
import Derived.Test.YtmlahfmcccpgjaaR18f
namespace Go.Proofs.Ytmlahfmcccpgjaa
open Go.RowKit

theorem ext1 (c : UInt8) (r : List UInt8) : Value.string (({ data := (c :: r).toArray } : ByteArray).extract 1 (r.length + 1)) = S r := by
  rw [S_extract]; simp [cutL]

set_option maxHeartbeats 2000000 in
set_option maxRecDepth 100000 in
theorem r18read_walk (s : List UInt8) (w : World) (hs : s.length ≤ 1000000) :
    Calls Try.prog 43 #[S s] w fun e w' => e = .returned (.tuple #[SnpV (readR s).1, .bool (readR s).2.1, .bool (readR s).2.2]) ∧ Below w.heap.size w w' := by
  cases s with
  | nil =>
    go_enter Try.func43, Try.ntmps43
    go_wp2
    refine bodyPost_ret (v := .tuple #[SnpV ([], []), .bool false, .bool false]) (by simp [results, Try.results43, go_sem]) rfl ⟨rfl, ?_⟩
    exact (Below.refl _ _).alloc (Nat.le_refl _) _
  | cons c r =>
    have hr : r.length ≤ 1000000 := by simp at hs; omega
    have C := r01taketext_walk r (w.alloc (.cells #[.string ⟨#[]⟩, .string ⟨#[]⟩] 31)) hr
    have hok := takeText_ok (l := r)
    have HR := Lib.hid (show readR (c :: r) = if (takeText r).2.2 ≠ 0 then (([], []), false, false) else (readX (c :: r), some c == some 2, recordR (readX (c :: r)) (some c == some 2) == (c :: r)) from rfl)
    have HX := Lib.hid (show readX (c :: r) = ((takeText r).1, if some c = some 2 then [] else (c :: r).drop (1 + (takeText r).2.1)) from rfl)
    generalize readR (c :: r) = rd at *
    generalize readX (c :: r) = rx at *
    generalize takeText r = tt at *
    obtain ⟨t, m, e⟩ := tt
    simp only at C hok HR HX
    go_enter Try.func43, Try.ntmps43
    go_wp2_with fail
    rw [ext1]
    refine C.mono ?_
    rintro e2 w2 ⟨rfl, rfl⟩
    have hBa : Below w.heap.size w (w.alloc (.cells #[.string ⟨#[]⟩, .string ⟨#[]⟩] 31)) := (Below.refl _ _).alloc (Nat.le_refl _) _
    by_cases he : e ≠ 0
    · have HR1 := Lib.hid (HR.out.trans (if_pos he))
      have he2 : (e != 0) = true := by rw [bne_iff_ne]; exact he
      have he3 : (e == 0) = false := by rw [beq_eq_false_iff_ne]; exact he
      clear he
      go_wp2
      refine bodyPost_ret (v := .tuple #[SnpV ([], []), .bool false, .bool false]) (by simp [results, Try.results43, go_sem]) rfl ⟨by rw [HR1.out], hBa⟩
    · have HR1 := Lib.hid (HR.out.trans (if_neg he))
      have he0 : e = 0 := by simpa using he
      subst he0
      obtain ⟨hm1, hm2⟩ := hok rfl
      have hb1 : (1 : Int) + (m : Int) ≤ ((r.length + 1 : Nat) : Int) := by omega
      have hb2 : 1 + m ≤ r.length + 1 := by omega
      by_cases hc : c = 2
      · subst hc
        have hcc : (((({ data := (2 :: r).toArray } : ByteArray)[0]'(by simp [ByteArray.size])).toNat : Int) == 2) = true := rfl
        have hrx : rx = (t, []) := by rw [HX.out]; simp
        subst hrx
        have C2 := fun w' => r18record_walk (t, []) true w' (by simp; omega) (by simp)
        have HQ := Lib.hid (show rd = ((t, []), true, recordR (t, []) true == 2 :: r) from HR1.out)
        generalize recordR (t, []) true = rc at *
        have ha0 := cell_old (cell_new w #[.string ⟨#[]⟩, .string ⟨#[]⟩] 31 0 rfl) (.cells #[S t, .string ⟨#[]⟩] 31)
        have ha1 := cell_old (cell_new w #[.string ⟨#[]⟩, .string ⟨#[]⟩] 31 1 rfl) (.cells #[S t, .string ⟨#[]⟩] 31)
        go_upto_region 10 with fail
        go_region_with (go_at_call 22; refine (C2 _).mono ?_; rintro e w2 ⟨rfl, hb⟩; obtain ⟨hbc, hbf⟩ := bcell hb; have hbz := hb.size; have q0 := is_some (cell_below hb (cell_drew ha0)); have q1 := is_some (cell_below hb (cell_drew ha1)))
        all_goals
          go_wp2
          refine bodyPost_ret (v := .tuple #[SnpV (t, []), .bool true, .bool (rc == 2 :: r)]) (by simp [results, Try.results43, go_sem, q0, q1]) rfl ⟨by rw [HQ.out], ?_⟩
          refine ((below_chain ((hBa.alloc (by simp) _).drew) hb (by simp; omega)).setCell (by simp) _).setCell (by simp) _
      · have hcc : (((({ data := (c :: r).toArray } : ByteArray)[0]'(by simp [ByteArray.size])).toNat : Int) == 2) = false := by
          rw [beq_eq_false_iff_ne]; intro e; exact hc (UInt8.toNat_inj.1 (by change (c.toNat : Int) = 2 at e; simp; omega))
        have hrx : rx = (t, (c :: r).drop (1 + m)) := by rw [HX.out]; simp [hc]
        subst hrx
        have C2 := fun w' => r18record_walk (t, (c :: r).drop (1 + m)) false w' (by simp; omega) (by simp; omega)
        have hc0 : (some c == some (2 : UInt8)) = false := by simpa using hc
        have HQ := Lib.hid (show rd = ((t, (c :: r).drop (1 + m)), false, recordR (t, (c :: r).drop (1 + m)) false == c :: r) by rw [HR1.out, hc0])
        generalize recordR (t, (c :: r).drop (1 + m)) false = rc at *
        have hex : Value.string (({ data := (c :: r).toArray } : ByteArray).extract (1 + m) (r.length + 1)) = S ((c :: r).drop (1 + m)) := by
          rw [S_extract, cutL_full (by simp)]
        generalize (c :: r).drop (1 + m) = rs at *
        have ha0 := cell_old (cell_new w #[.string ⟨#[]⟩, .string ⟨#[]⟩] 31 0 rfl) (.cells #[S t, S rs] 31)
        have ha1 := cell_old (cell_new w #[.string ⟨#[]⟩, .string ⟨#[]⟩] 31 1 rfl) (.cells #[S t, S rs] 31)
        go_upto_region 10 with fail
        go_region_with (go_at_call 22; refine (C2 _).mono ?_; rintro e w2 ⟨rfl, hb⟩; obtain ⟨hbc, hbf⟩ := bcell hb; have hbz := hb.size; have q0 := is_some (cell_below hb (cell_drew ha0)); have q1 := is_some (cell_below hb (cell_drew ha1)))
        all_goals
          go_wp2
          refine bodyPost_ret (v := .tuple #[SnpV (t, rs), .bool false, .bool (rc == c :: r)]) (by simp [results, Try.results43, go_sem, q0, q1]) rfl ⟨by rw [HQ.out], ?_⟩
          refine ((below_chain ((hBa.alloc (by simp) _).drew) hb (by simp; omega)).setCell (by simp) _).setCell (by simp) _
end Go.Proofs.Ytmlahfmcccpgjaa
