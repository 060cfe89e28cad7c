/- The program's read of a record, and Replay. -/
import Derived.Test.YtmlahfmcccpgjaaPRec
import Derived.Test.YtmlahfmcccpgjaaRootsLaws
namespace Go.Proofs.Ytmlahfmcccpgjaa
open Go.RowKit

/-- A record of a tree that goes has nothing behind its name. -/
theorem read_leave {r t : List UInt8} {m : Nat} (h : takeText r = (t, m, 0)) (hr : r.length ≤ 1000000) (hm : (2 :: r).drop (1 + m) ≠ []) : (recordR (t, []) true == 2 :: r) = false := by
  rw [beq_eq_false_iff_ne]
  unfold recordR
  simp only
  split
  · simp
  · simp only [if_true, ne_eq, List.cons.injEq, true_and]
    intro e
    have ht : t.length ≤ 65536 := by
      rcases Nat.lt_or_ge 65536 t.length with h1 | h1
      · exfalso
        unfold putText at e; rw [if_pos h1] at e
        subst e
        simp [takeText, takeV, takeGo] at h
      · exact h1
    have h2 := takeText_put ht []
    rw [List.append_nil, e, h] at h2
    simp at h2
    subst h2
    rw [Nat.add_comm] at hm
    simp at hm
theorem record_ne {x : Snp} {c : UInt8} {r : List UInt8} (h1 : c ≠ 1) : (recordR x false == c :: r) = false := by
  rw [beq_eq_false_iff_ne]
  unfold recordR
  split
  · simp
  · simp; intro e; exact absurd e.symm h1

/-- What read hands back: what the document's does, as far as it is a record. -/
def PReadPost (s : List UInt8) (w : World) (e : Ending) (w' : World) : Prop :=
  ∃ (x : Snp) (g : Bool), e = .returned (.tuple #[SnpV x, .bool g, .bool (readR s).2.2]) ∧ ((readR s).2.2 = true → x = (readR s).1 ∧ g = (readR s).2.1) ∧ Below w.heap.size w w'

set_option maxHeartbeats 4000000 in
set_option maxRecDepth 100000 in
theorem pread_walk (s : List UInt8) (w : World) (hs : s.length ≤ 1000000) : Calls Try.prog 42 #[S s] w (PReadPost s w) := by
  unfold PReadPost
  have hBa : Below w.heap.size w (w.alloc (.cells #[.string ⟨#[]⟩, .string ⟨#[]⟩] 31)) := (Below.refl _ _).alloc (Nat.le_refl _) _
  have ha0 := cell_new w #[.string ⟨#[]⟩, .string ⟨#[]⟩] 31 0 rfl
  have ha1 := cell_new w #[.string ⟨#[]⟩, .string ⟨#[]⟩] 31 1 rfl
  cases s with
  | nil =>
    go_enter Try.func42, Try.ntmps42
    go_wp2
    refine bodyPost_ret (v := .tuple #[SnpV ([], []), .bool false, .bool false]) (by simp [results, Try.results42, go_sem]) rfl ⟨([], []), false, rfl, by simp [readR], ?_⟩
    exact hBa
  | cons c r =>
    have hr : r.length ≤ 1000000 := by simp at hs; omega
    have C := ptaketext_walk r (w.alloc (.cells #[.string ⟨#[]⟩, .string ⟨#[]⟩] 31)) hr
    have hok := takeText_ok (l := r)
    have HR := Lib.hid (show readR (c :: r) = if (takeText r).2.2 ≠ 0 then (([], []), false, false) else (readX (c :: r), some c == some 2, recordR (readX (c :: r)) (some c == some 2) == (c :: r)) from rfl)
    have HX := Lib.hid (show readX (c :: r) = ((takeText r).1, if some c = some 2 then [] else (c :: r).drop (1 + (takeText r).2.1)) from rfl)
    have HLV := Lib.hid (fun t m (h : takeText r = (t, m, 0)) hm => read_leave h hr hm)
    generalize readR (c :: r) = rd at *
    generalize readX (c :: r) = rx at *
    generalize takeText r = tt at *
    obtain ⟨t, m, e⟩ := tt
    simp only at C hok HR HX
    go_enter Try.func42, Try.ntmps42
    go_wp2_with fail
    rw [ext1]
    refine C.mono ?_
    rintro e2 w2 ⟨rfl, hb2⟩
    have hB2 := below_chain hBa hb2 (by simp)
    have hs0 : w2.cell? ⟨w.heap.size, 0, none⟩ = some (.string ⟨#[]⟩) := cell_below hb2 ha0
    have hs1 : w2.cell? ⟨w.heap.size, 1, none⟩ = some (.string ⟨#[]⟩) := cell_below hb2 ha1
    have q0 := is_some hs0
    have q1 := is_some hs1
    have hz2 : w.heap.size + 1 ≤ w2.heap.size := by have := hb2.size; simpa using this
    have hf2 : ∀ o, w2.frozen? ⟨w.heap.size, o, none⟩ = false := fun o => by
      rw [(bcell hb2).2 _ _ (by simp)]; simp [go_sem]
    have hfa := hf2 0
    have hfb := hf2 1
    clear hf2 hb2 C ha0 ha1 hBa
    by_cases he : e ≠ 0
    · have HR1 := Lib.hid (HR.out.trans (if_pos he))
      have he2 : (e != 0) = true := by rw [bne_iff_ne]; exact he
      have he3 : (e == 0) = false := by rw [beq_eq_false_iff_ne]; exact he
      clear he
      go_wp2
      refine bodyPost_ret (v := .tuple #[SnpV ([], []), .bool false, .bool false]) (by simp [results, Try.results42, go_sem, q0, q1]) rfl ⟨([], []), false, by rw [HR1.out], by rw [HR1.out]; simp, ?_⟩
      exact (hB2.setCell (by simp) _).setCell (by simp) _
    · have HR1 := Lib.hid (HR.out.trans (if_neg he))
      have he0 : e = 0 := by simpa using he
      subst he0
      obtain ⟨hm1, hm2⟩ := hok rfl
      have hb1 : (1 : Int) + (m : Int) ≤ ((r.length + 1 : Nat) : Int) := by omega
      have hb2 : 1 + m ≤ r.length + 1 := by omega
      have hex : Value.string (({ data := (c :: r).toArray } : ByteArray).extract (1 + m) (r.length + 1)) = S ((c :: r).drop (1 + m)) := by
        rw [S_extract, cutL_full (by simp)]
      have HL := Lib.hid (fun h => HLV.out t m rfl h)
      have hdl : ((c :: r).drop (1 + m)).length ≤ 1000000 := by simp; omega
      clear HR HLV hok he
      by_cases hc : c = 2
      · subst hc
        have hcc : (((({ data := (2 :: r).toArray } : ByteArray)[0]'(by simp [ByteArray.size])).toNat : Int) == 2) = true := rfl
        have hrx : rx = (t, []) := by rw [HX.out]; simp
        subst hrx
        have C2 := fun w' => precord_walk (t, []) true w' (by simp; omega) (by simp)
        have HQ := Lib.hid (show rd = ((t, []), true, recordR (t, []) true == 2 :: r) from HR1.out)
        generalize recordR (t, []) true = rc at *
        generalize (2 :: r).drop (1 + m) = rs at *
        clear HX HR1
        cases rs with
        | nil =>
          go_upto_region 15 with fail
          obtain ⟨W, hW⟩ : ∃ W, W = (w2.setCell ⟨w.heap.size, 0, none⟩ (S t)).setCell ⟨w.heap.size, 1, none⟩ (S []) := ⟨_, rfl⟩
          have hW0 : W.cell? ⟨w.heap.size, 0, none⟩ = some (S t) := by rw [hW]; simp [go_sem, q0, q1]
          have hW1 : W.cell? ⟨w.heap.size, 1, none⟩ = some (S []) := by rw [hW]; simp [go_sem, q0, q1]
          have hWa : W.frozen? ⟨w.heap.size, 0, none⟩ = false := by rw [hW]; simp [go_sem, hfa]
          have hWb : W.frozen? ⟨w.heap.size, 1, none⟩ = false := by rw [hW]; simp [go_sem, hfb]
          have hBW : Below w.heap.size w W := by rw [hW]; exact (hB2.setCell (by simp) _).setCell (by simp) _
          have hzW : w.heap.size + 1 ≤ W.heap.size := by rw [hW]; simp only [size_setCell]; exact hz2
          rw [← hW]
          have HW := Lib.hid hW
          clear hW hs0 hs1 q0 q1 hfa hfb hB2 hz2
          go_region_with (go_at_call 15; refine (C2 _).mono ?_; rintro e w3 ⟨rfl, hb3⟩; have hbz := hb3.size; have k0 := cell_below hb3 (cell_drew hW0); have k1 := cell_below hb3 (cell_drew hW1); have q0 := is_some k0; have q1 := is_some k1; (have hg1 : w3.frozen? ⟨w.heap.size, 0, none⟩ = false := ((bcell hb3).2 _ _ (by show w.heap.size < W.heap.size; omega)).trans hWa); (have hg2 : w3.frozen? ⟨w.heap.size, 1, none⟩ = false := ((bcell hb3).2 _ _ (by show w.heap.size < W.heap.size; omega)).trans hWb))
          all_goals
            go_wp2
            refine bodyPost_ret (v := .tuple #[SnpV (t, []), .bool true, .bool (rc == 2 :: r)]) (by simp [results, Try.results42, go_sem, q0, q1]) rfl ⟨(t, []), true, by rw [HQ.out], by rw [HQ.out]; simp, ?_⟩
            exact ((below_chain hBW.drew hb3 (by show w.heap.size ≤ W.heap.size; omega)).setCell (by simp) _).setCell (by simp) _
        | cons d ds =>
          have HF := Lib.hid (HL.out (by simp))
          go_wp2
          refine bodyPost_ret (v := .tuple #[SnpV (t, []), .bool true, .bool false]) (by simp [results, Try.results42, go_sem, q0, q1]) rfl ⟨(t, []), true, by rw [HQ.out]; simp only; rw [HF.out], by rw [HQ.out]; simp, ?_⟩
          exact ((hB2.setCell (by simp) _).setCell (by simp) _).setCell (by simp) _
      · have hcc : (((({ data := (c :: r).toArray } : ByteArray)[0]'(by simp [ByteArray.size])).toNat : Int) == 2) = false := by
          rw [beq_eq_false_iff_ne]; intro e; exact hc (UInt8.toNat_inj.1 (by change (c.toNat : Int) = 2 at e; simp; omega))
        have hrx : rx = (t, (c :: r).drop (1 + m)) := by rw [HX.out]; simp [hc]
        subst hrx
        have hc0 : (some c == some (2 : UInt8)) = false := by simpa using hc
        have HQ := Lib.hid (show rd = ((t, (c :: r).drop (1 + m)), false, recordR (t, (c :: r).drop (1 + m)) false == c :: r) by rw [HR1.out, hc0])
        have HNE := Lib.hid (fun h1 => record_ne (x := (t, (c :: r).drop (1 + m))) (c := c) (r := r) h1)
        by_cases hc1 : c = 1
        · subst hc1
          have hcd : (((({ data := (1 :: r).toArray } : ByteArray)[0]'(by simp [ByteArray.size])).toNat : Int) == 1) = true := rfl
          have C2 := fun w' => precord_walk (t, (1 :: r).drop (1 + m)) false w' (by simp; omega) hdl
          generalize recordR (t, (1 :: r).drop (1 + m)) false = rc at *
          generalize (1 :: r).drop (1 + m) = rs at *
          go_upto_region 15 with fail
          obtain ⟨W, hW⟩ : ∃ W, W = (w2.setCell ⟨w.heap.size, 0, none⟩ (S t)).setCell ⟨w.heap.size, 1, none⟩ (S rs) := ⟨_, rfl⟩
          have hW0 : W.cell? ⟨w.heap.size, 0, none⟩ = some (S t) := by rw [hW]; simp [go_sem, q0, q1]
          have hW1 : W.cell? ⟨w.heap.size, 1, none⟩ = some (S rs) := by rw [hW]; simp [go_sem, q0, q1]
          have hWa : W.frozen? ⟨w.heap.size, 0, none⟩ = false := by rw [hW]; simp [go_sem, hfa]
          have hWb : W.frozen? ⟨w.heap.size, 1, none⟩ = false := by rw [hW]; simp [go_sem, hfb]
          have hBW : Below w.heap.size w W := by rw [hW]; exact (hB2.setCell (by simp) _).setCell (by simp) _
          have hzW : w.heap.size + 1 ≤ W.heap.size := by rw [hW]; simp only [size_setCell]; exact hz2
          rw [← hW]
          have HW := Lib.hid hW
          clear hW HX HR1 hs0 hs1 q0 q1 hfa hfb hB2 hz2
          go_region_with (go_at_call 15; refine (C2 _).mono ?_; rintro e w3 ⟨rfl, hb3⟩; have hbz := hb3.size; have k0 := cell_below hb3 (cell_drew hW0); have k1 := cell_below hb3 (cell_drew hW1); have q0 := is_some k0; have q1 := is_some k1; (have hg1 : w3.frozen? ⟨w.heap.size, 0, none⟩ = false := ((bcell hb3).2 _ _ (by show w.heap.size < W.heap.size; omega)).trans hWa); (have hg2 : w3.frozen? ⟨w.heap.size, 1, none⟩ = false := ((bcell hb3).2 _ _ (by show w.heap.size < W.heap.size; omega)).trans hWb))
          all_goals
            go_wp2
            refine bodyPost_ret (v := .tuple #[SnpV (t, rs), .bool false, .bool (rc == 1 :: r)]) (by simp [results, Try.results42, go_sem, q0, q1]) rfl ⟨(t, rs), false, by rw [HQ.out], by rw [HQ.out]; simp, ?_⟩
            exact ((below_chain hBW.drew hb3 (by show w.heap.size ≤ W.heap.size; omega)).setCell (by simp) _).setCell (by simp) _
        · have hcd : (((({ data := (c :: r).toArray } : ByteArray)[0]'(by simp [ByteArray.size])).toNat : Int) == 1) = false := by
            rw [beq_eq_false_iff_ne]; intro e; exact hc1 (UInt8.toNat_inj.1 (by change (c.toNat : Int) = 1 at e; simp; omega))
          have HF := Lib.hid (HNE.out hc1)
          clear HNE
          generalize recordR (t, (c :: r).drop (1 + m)) false = rc at *
          generalize (c :: r).drop (1 + m) = rs at *
          go_wp2
          refine bodyPost_ret (v := .tuple #[SnpV (t, []), .bool false, .bool false]) (by simp [results, Try.results42, go_sem, q0, q1]) rfl ⟨(t, []), false, by rw [HQ.out]; simp only; rw [HF.out], by rw [HQ.out]; simp only; rw [HF.out]; simp, ?_⟩
          exact ((hB2.setCell (by simp) _).setCell (by simp) _).setCell (by simp) _
end Go.Proofs.Ytmlahfmcccpgjaa
