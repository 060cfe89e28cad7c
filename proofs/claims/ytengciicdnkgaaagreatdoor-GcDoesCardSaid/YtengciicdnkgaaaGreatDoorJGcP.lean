/- Whether a collection is done. A collection goes through the first key that waits (next). A collection goes on (Step). Few objects, of few bytes, that are fit. -/
import Derived.Test.YtengciicdnkgaaaGreatDoorGcDefs
import Derived.Test.YtengciicdnkgaaaGreatDoorGcPlain
import Derived.Test.YtengciicdnkgaaaGreatDoorObjAt
import Derived.Test.YtengciicdnkgaaaGreatDoorJKids
import Derived.Test.YtengciicdnkgaaaGreatDoorPRead11
import Derived.Test.YtengciicdnkgaaaGreatDoorRObj
import Derived.Test.YtengciicdnkgaaaGreatDoorBoxB
import Derived.Test.YtengciicdnkgaaaGreatDoorNodeB
namespace Go.Proofs.YtengciicdnkgaaaGreatDoor
open Go.RowKit

theorem fit5_upP {m : List (List UInt8)} (h : fit5 m = true) : upS m := by
  unfold fit5 at h
  rw [Bool.and_eq_true] at h
  exact upN_pairs _ h.2
def doneB (on : Bool) (q : List (List UInt8)) : Bool := on && q.isEmpty
theorem doneG_walk (on : Bool) (qv mv : Value) (q : List (List UInt8)) (w : World) (hq : StrRow w qv q) (hmv : ∃ a n c, mv = .slice a n c) : Calls Tryz.prog 11 #[GcV on qv mv] w fun e w' => e = .returned (.bool (doneB on q)) ∧ Below w.heap.size w w' := by
  obtain ⟨a, c, rfl, -⟩ := hq
  obtain ⟨a2, n2, c2, rfl⟩ := hmv
  have HD := Lib.hid (show doneB on q = (on && q.isEmpty) from rfl)
  generalize doneB on q = d at *
  cases on with
  | false =>
    go_enter Tryz.func11, Tryz.ntmps11
    go_wp2
    go_ret
    exact ⟨by rw [HD.out]; rfl, (Below.refl _ _).alloc (Nat.le_refl _) _⟩
  | true =>
    cases q with
    | nil =>
      go_enter Tryz.func11, Tryz.ntmps11
      go_wp2
      go_ret
      exact ⟨by rw [HD.out]; rfl, (Below.refl _ _).alloc (Nat.le_refl _) _⟩
    | cons k q =>
      have hnz : (((k :: q).length : Int) == 0) = false := by rw [beq_eq_false_iff_ne]; simp; omega
      generalize (k :: q).length = QL at *
      go_enter Tryz.func11, Tryz.ntmps11
      go_wp2
      go_ret
      exact ⟨by rw [HD.out]; rfl, (Below.refl _ _).alloc (Nat.le_refl _) _⟩
end Go.Proofs.YtengciicdnkgaaaGreatDoor

namespace Go.Proofs.YtengciicdnkgaaaGreatDoor
open Go.RowKit

def NextPost (b : Nat) (on : Bool) (s : QM) (w w' : World) : Prop :=
  ∃ qv mv, MGBox w' b on qv mv ∧ RowN b w' qv s.1 ∧ RowN b w' mv s.2 ∧ Below b w w'

theorem RowN.of_box {w : World} {b : Nat} {on : Bool} {qa ma : Option Addr} {qn qc mn mc : Nat} {v : Value} {xs : List (List UInt8)} (h : StrRow w v xs) (hm : MGBox w b on (.slice qa qn qc) (.slice ma mn mc)) : RowN b w v xs := by
  obtain ⟨a, c, hv, hc, hmx, hx⟩ := h
  refine ⟨a, c, hv, hc, hmx, ?_⟩
  rcases hx with hx | ⟨g, o, ha, hx⟩
  · exact .inl hx
  · cases xs with
    | nil => exact .inl rfl
    | cons x xs =>
      refine .inr ⟨g, o, ha, ?_, hx⟩
      rintro rfl
      have h0 := hx 0 x rfl
      simp only [World.cell?, hm, Nat.add_zero] at h0
      match o, h0 with
      | 0, h0 => simp at h0
      | 1, h0 => simp at h0
      | 2, h0 => simp at h0
      | o + 3, h0 => simp at h0

set_option maxHeartbeats 8000000 in
set_option maxRecDepth 100000 in
theorem next_walk (b : Nat) (on : Bool) (qv mv ov : Value) (k : List UInt8) (q m : List (List UInt8)) (o : List Snp) (w0 w : World) (hm : MGBox w b on qv mv) (hq : RowN b w qv (k :: q)) (hmr : RowN b w mv m) (hT : ErrT w0) (ho : SnpRow w0 ov o) (hw0 : w0.heap.size ≤ b) (hw : Below w0.heap.size w0 w) (hol : o.length ≤ 1100000) (hou : upS (namesR o)) (hraw : ∀ x ∈ o, x.2.length ≤ 1000000) (hql : q.length ≤ 1097000) (hml : m.length ≤ 1097000) (hup : upS m) :
    Calls Tryz.prog 25 #[.pointer (some ⟨b, 0, none⟩), ov] w fun e w' => e = .returned (.tuple #[]) ∧ NextPost b on (nextS o (k :: q, m)) w w' := by
  have HQ := Lib.hid hq
  have HM := Lib.hid hmr
  have HG := Lib.hid hm
  have hbw := heap_lt hm
  obtain ⟨qa, qc, rfl, hqc, hqm, hqx⟩ := hq
  rcases hqx with hqx | ⟨g, o', rfl, hgb, hqx⟩
  · cases hqx
  have hk0 := hqx 0 k rfl
  simp only [Nat.add_zero] at hk0
  have HQX := Lib.hid (fun j x (hj : q[j]? = some x) => hqx (j + 1) x (by simpa using hj))
  obtain ⟨N, hN⟩ : ∃ N, N = (k :: q).length := ⟨_, rfl⟩
  have hN1 : N = q.length + 1 := by rw [hN]; simp
  rw [← hN] at hm hqc HG
  clear hqx hN
  obtain ⟨c0, c1, c2⟩ := (show _ ∧ _ ∧ _ from ⟨heap_cell hm (j := 0) (v := .bool on) rfl, heap_cell hm (j := 1) (v := .slice (some ⟨g, o', none⟩) N qc) rfl, heap_cell hm (j := 2) (v := mv) rfl⟩)
  have C1 := pget_walk ov o k w (ho.below hw) hol hou
  have hR : Hid (nextS o (k :: q, m) = if (readN (rootOf (findR o k))).2 = 0 then notesS q m (kidsN (readN (rootOf (findR o k))).1) else (q, m)) := Lib.hid rfl
  have HRL := Lib.hid (show (rootOf (findR o k)).length ≤ 1000000 by
    cases hf : findR o k with
    | none => simp [rootOf]
    | some r =>
      unfold findR at hf
      rw [Option.map_eq_some_iff] at hf
      obtain ⟨x, hx, rfl⟩ := hf
      exact hraw x (List.mem_of_find?_eq_some hx))
  have HKB := Lib.hid (fun h => kids_bound (s := rootOf (findR o k)) h)
  have HT0 := Lib.hid hT
  have HW0 := Lib.hid hw
  have HL0 := Lib.hid hw0
  have HUP := Lib.hid hup
  generalize nextS o (k :: q, m) = res at *
  generalize rootOf (findR o k) = raw at *
  generalize (findR o k).isSome = is at *
  clear hraw hou ho hmr hT hup hw hm
  have h0 : (0 : Int) < (N : Int) := by omega
  have h1 : (1 : Int) ≤ (N : Int) := by omega
  have hNq : N ≤ qc := hqc
  have hN63 : N ≤ 1097001 := by omega
  unfold maxLen at hqm
  go_enter Tryz.func25, Tryz.ntmps25
  go_wp2_with fail
  refine C1.mono ?_
  rintro e w1 ⟨rfl, hb1⟩
  have hm1 := keptG hb1 HG.out
  obtain ⟨d0, d1, d2⟩ := (show _ ∧ _ ∧ _ from ⟨heap_cell hm1 (j := 0) (v := .bool on) rfl, heap_cell hm1 (j := 1) (v := .slice (some ⟨g, o', none⟩) N qc) rfl, heap_cell hm1 (j := 2) (v := mv) rfl⟩)
  have s1 := is_some d1
  have f1 := heap_free hm1 1
  clear C1 c0 c1 c2 hk0
  go_upto_region 2 with fail
  have hrow2 : RowN b w1 (.slice (if qc = 1 then some (⟨g, o', none⟩ : Addr) else some ⟨g, o' + 1, none⟩) q.length (qc - 1)) q := by
    by_cases hq1 : qc = 1
    · refine ⟨_, _, rfl, by omega, by unfold maxLen; omega, .inl ?_⟩
      exact List.length_eq_zero_iff.1 (by omega)
    · rw [if_neg hq1]
      refine ⟨_, _, rfl, by omega, by unfold maxLen; omega, .inr ⟨g, o' + 1, rfl, hgb, fun j x hj => ?_⟩⟩
      have := cell_below hb1 (HQX.out j x hj)
      rw [show o' + 1 + j = o' + (j + 1) by omega]
      exact this
  generalize (if qc = 1 then some (⟨g, o', none⟩ : Addr) else some ⟨g, o' + 1, none⟩) = qa2 at *
  obtain ⟨w2, hw2, hm2, HQ2, HM2, HB2⟩ : ∃ w2, w2 = w1.setCell ⟨b, 1, none⟩ (.slice qa2 q.length (qc - 1)) ∧ MGBox w2 b on (.slice qa2 q.length (qc - 1)) mv ∧ Hid (RowN b w2 (.slice qa2 q.length (qc - 1)) q) ∧ Hid (RowN b w2 mv m) ∧ Hid (Below b w w2) :=
    ⟨_, rfl, mg_set1 hm1 _, hrow2.set, (HM.out.below hb1).set, below_setC (hb1.mono (by omega)) (Nat.le_refl _) 1 _⟩
  have HG2 := Lib.hid hm2
  have HT2 := Lib.hid (show ErrT w2 from HT0.out.below (HW0.out.trans (HB2.out.mono HL0.out)))
  rw [← hw2]
  clear hw2 s1 f1 d0 d1 d2 hm1 hb1 HQX hrow2 hm2
  have CR := pread11_walk raw w2 HT2.out HRL.out
  have HTOT := Lib.hid (fun h => read_tot (s := raw) h)
  go_wp2_with fail
  refine CR.mono ?_
  rintro e w3 ⟨vp, ve, rfl, hnr, hb3⟩
  obtain ⟨va, vc, rfl⟩ := row_slice hnr.parts
  obtain ⟨ua, uc, rfl⟩ := row_slice hnr.ents
  obtain ⟨w4, hw4, hB4, hz4⟩ : ∃ w4, w4 = w3.alloc (.cells #[.int .i64 (readN raw).1.kind, S (readN raw).1.data, .slice va (readN raw).1.parts.length vc, .slice ua (readN raw).1.ents.length uc] 54) ∧ Below w2.heap.size w2 w4 ∧ w4.heap[w3.heap.size]? = some (.cells #[.int .i64 (readN raw).1.kind, S (readN raw).1.data, .slice va (readN raw).1.parts.length vc, .slice ua (readN raw).1.ents.length uc] 54 (0, 0)) :=
    ⟨_, rfl, hb3.alloc hb3.size _, heap_alloc_new _ _⟩
  have HN4 := Lib.hid (hnr.below (show Below w3.heap.size w3 w4 by rw [hw4]; exact (Below.refl _ _).alloc (Nat.le_refl _) _))
  obtain ⟨⟨z0, z1, z2, z3⟩, -, -⟩ := box4 hz4
  have HG4 := Lib.hid (keptG hB4 HG2.out)
  have HQ4 := Lib.hid (HQ2.out.below hB4)
  have HM4 := Lib.hid (HM2.out.below hB4)
  have HB4 := Lib.hid (HB2.out.trans (hB4.mono (by have := heap_lt HG2.out; omega) : Below b w2 w4))
  obtain ⟨n, hn⟩ : ∃ n, (readN raw).1 = n := ⟨_, rfl⟩
  obtain ⟨er, her⟩ : ∃ er, (readN raw).2 = er := ⟨_, rfl⟩
  rw [hn] at z0 z1 z2 z3 HN4 HTOT hw4 HKB
  rw [hn, her] at hR
  rw [her] at HTOT HKB
  rw [hn, her]
  clear CR hn her hnr hb3 hB4 hz4
  by_cases h0e : er = 0
  · have hq0 : (er == 0) = true := by rw [beq_iff_eq]; exact h0e
    have HRES := Lib.hid (show res = notesS q m (kidsN n) by rw [hR.out, if_pos h0e])
    have htot := HTOT.out h0e
    have hkb := HKB.out h0e
    have CK := pkids_walk (.slice va n.parts.length vc) (.slice ua n.ents.length uc) n w4 HN4.out (by omega)
    clear h0e hR HTOT HKB
    go_upto_region 3 with fail
    rw [← hw4]
    clear hw4
    go_wp2_with fail
    refine CK.mono ?_
    rintro e w5 ⟨v5, rfl, hr5, hb5⟩
    have HG5 := keptG hb5 HG4.out
    have hm5 := HM4.out.below hb5
    obtain ⟨ma, mc, rfl, -, -, -⟩ := HM.out
    have CM := markL_walk b on (.slice qa2 q.length (qc - 1)) (.slice ma m.length mc) v5 q m (kidsN n) w5 HG5 (HQ4.out.below hb5) hm5 (RowN.of_box hr5 HG5) (by omega) (by omega) HUP.out
    have HB5 := Lib.hid (HB4.out.trans (hb5.mono (by have := heap_lt HG4.out; omega) : Below b w4 w5))
    clear hb5 HG5 hm5 z0 z1 z2 z3 hr5
    go_wp2_with fail
    refine CM.mono ?_
    rintro e w6 ⟨rfl, qv6, mv6, hg6, hq6, hm6, -, hb6⟩
    have HP := Lib.hid (show NextPost b on res w w6 from ⟨qv6, mv6, hg6, by rw [HRES.out]; exact hq6, by rw [HRES.out]; exact hm6, HB5.out.trans hb6⟩)
    clear hg6 hq6 hm6 hb6 CM
    go_wp2
    go_end0
    exact ⟨rfl, HP.out⟩
  · have hq0 : (er == 0) = false := by rw [beq_eq_false_iff_ne]; exact h0e
    have HRES := Lib.hid (show res = (q, m) by rw [hR.out, if_neg h0e])
    have HP := Lib.hid (show NextPost b on res w w4 from ⟨_, _, HG4.out, by rw [HRES.out]; exact HQ4.out, by rw [HRES.out]; exact HM4.out, HB4.out⟩)
    clear h0e hR HTOT HKB
    go_upto_region 3 with fail
    rw [← hw4]
    clear hw4
    go_wp2
    go_end0
    exact ⟨rfl, HP.out⟩
end Go.Proofs.YtengciicdnkgaaaGreatDoor

namespace Go.Proofs.YtengciicdnkgaaaGreatDoor
open Go.RowKit

def StepPost (on : Bool) (s : QM) (w : World) (e : Ending) (w' : World) : Prop :=
  ∃ qv mv, e = .returned (GcV on qv mv) ∧ StrRow w' qv s.1 ∧ StrRow w' mv s.2 ∧ Below w.heap.size w w'
theorem RowN.other {b r : Nat} {w : World} {v : Value} {xs : List (List UInt8)} (h : RowN b w v xs) (hr : w.heap[r]? = some (GCells false (.slice none 0 0) (.slice none 0 0))) : RowN r w v xs := by
  obtain ⟨a, c, hv, hc, hm, hx⟩ := h
  refine ⟨a, c, hv, hc, hm, ?_⟩
  rcases hx with hx | ⟨g, o, ha, _, hx⟩
  · exact .inl hx
  · cases xs with
    | nil => exact .inl rfl
    | cons x xs =>
      refine .inr ⟨g, o, ha, ?_, hx⟩
      rintro rfl
      have h0 := hx 0 x rfl
      simp only [World.cell?, hr, Nat.add_zero] at h0
      match o, h0 with
      | 0, h0 => simp at h0
      | 1, h0 => simp at h0
      | 2, h0 => simp at h0
      | o + 3, h0 => simp at h0
theorem step_out {r : Nat} {on : Bool} {w w' : World} {s : QM} {qv mv : Value} (hq : RowN r w' qv s.1) (hm : RowN r w' mv s.2) (hb : Below w.heap.size w w') (hr : w.heap.size ≤ r) (x y z : Value) :
    StepPost on s w (.returned (GcV on qv mv)) (((w'.setCell ⟨r, 0, none⟩ x).setCell ⟨r, 1, none⟩ y).setCell ⟨r, 2, none⟩ z) :=
  ⟨_, _, rfl, hq.set.set.set.row, hm.set.set.set.row, below_setC (below_setC (below_setC hb hr 0 _) hr 1 _) hr 2 _⟩

set_option maxHeartbeats 8000000 in
set_option maxRecDepth 100000 in
theorem stepZ_walk (on : Bool) (qv mv ov : Value) (q m : List (List UInt8)) (o : List Snp) (z : Int) (n : Nat) (hz : max (0 : Int) (min z 1000) = (n : Int)) (w : World) (hq : StrRow w qv q) (hmr : StrRow w mv m) (hT : ErrT w) (ho : SnpRow w ov o) (hol : o.length ≤ 1100000) (hou : upS (namesR o)) (hraw : ∀ x ∈ o, x.2.length ≤ 1000000) (hn : n ≤ 1000) (hql : q.length + 1084 * n ≤ 1096000) (hml : m.length + 1084 * n ≤ 1096000) (hup : upS m) :
    Calls Tryz.prog 9 #[GcV on qv mv, ov, .int .i64 z] w (StepPost on (stepS o n (q, m)) w) := by
  have HQ := Lib.hid hq
  have HM := Lib.hid hmr
  have HT := Lib.hid hT
  have HO := Lib.hid ho
  have HRAW := Lib.hid hraw
  have HOU := Lib.hid hou
  obtain ⟨qa, qc, rfl, _⟩ := hq
  obtain ⟨ma, mc, rfl, _⟩ := hmr
  obtain ⟨w1, hw1, HB1, hz1, hg1, HR1, hm1⟩ : ∃ w1, w1 = ((w.alloc (GCells on (.slice qa q.length qc) (.slice ma m.length mc))).alloc (GCells false (.slice none 0 0) (.slice none 0 0))).alloc (.cells #[.bool on, .slice qa q.length qc, .slice ma m.length mc] 45) ∧ Hid (Below w.heap.size w w1) ∧ w1.heap.size = w.heap.size + 1 + 1 + 1 ∧ w1.heap[w.heap.size]? = some (GCells on (.slice qa q.length qc) (.slice ma m.length mc)) ∧ Hid (w1.heap[w.heap.size + 1]? = some (GCells false (.slice none 0 0) (.slice none 0 0))) ∧ MGBox w1 (w.heap.size + 1 + 1) on (.slice qa q.length qc) (.slice ma m.length mc) := by
    refine ⟨_, rfl, (((Below.refl _ _).alloc (Nat.le_refl _) _).alloc (by simp) _).alloc (by simp; omega) _, by simp, ?_, ?_, ?_⟩
    · exact heap_old (heap_old (heap_alloc_new w _))
    · exact heap_old (heap_new' (by simp) _)
    · exact heap_new' (by simp) _
  have HINV0 := Lib.hid (show NextPost (w.heap.size + 1 + 1) on (stepS o 0 (q, m)) w1 w1 from ⟨_, _, hm1, RowN.of_row HQ.out (by omega) HB1.out, RowN.of_row HM.out (by omega) HB1.out, Below.refl _ _⟩)
  have HLEN := Lib.hid (fun j => stepS_len (o := o) j (q, m) hup)
  have HNIL := Lib.hid (fun j (hj : j ≤ n) (h : (stepS o j (q, m)).1 = []) => show stepS o n (q, m) = stepS o j (q, m) by
    obtain ⟨d, rfl⟩ : ∃ d, n = j + d := ⟨n - j, by omega⟩
    rw [stepS_add, stepS_nil h])
  have HSN := Lib.hid (fun j => stepS_snoc o j (q, m))
  have hn0 : (0 : Int) ≤ (n : Int) := by omega
  have hn1 : (n : Int) ≤ 1000 := by omega
  have HSZ := Lib.hid hz1
  have HZ := Lib.hid hz
  clear hraw hou ho hT hup hz1 hz
  go_enter Tryz.func9, Tryz.ntmps9
  go_upto_region 2 with fail
  rw [← hw1]
  clear hw1
  clear hm1 hg1
  go_wp2
  rw [HZ.out]
  go_loopw [14] (fun i wr => ∃ j : Nat, j ≤ n ∧ i = .int .i64 j ∧ NextPost (w.heap.size + 1 + 1) on (stepS o j (q, m)) w1 wr) (fun i _ => n - (intOf i).toNat)
  case atStart => exact ⟨0, Nat.zero_le _, rfl, HINV0.out⟩
  case round =>
    obtain ⟨j, hj, rfl, hinv⟩ := hrel
    clear HINV0
    obtain ⟨l1, l2, l3⟩ := HLEN.out j
    obtain ⟨qv2, mv2, hmg, hq2, hmr2, hB⟩ := hinv
    have hsz := HSZ.out
    by_cases h1 : j < n
    · have h1' : (j : Int) < (n : Int) := by omega
      have HS := Lib.hid (HSN.out j)
      have HNL := Lib.hid (HNIL.out j hj)
      generalize stepS o j (q, m) = s at *
      obtain ⟨Q, M⟩ := s
      simp only at l1 l2 l3 hq2 hmr2
      cases Q with
      | nil =>
        have HRES := Lib.hid (HNL.out rfl)
        clear HS HNL
        have hr2 : wr.heap[w.heap.size + 1]? = some (GCells false (.slice none 0 0) (.slice none 0 0)) := (hB.block _ (by omega)).trans HR1.out
        have hBw : Below w.heap.size w wr := HB1.out.trans (hB.mono (by omega))
        have HSTEP := Lib.hid (fun x y z => step_out (s := (([] : List (List UInt8)), M)) (on := on) (RowN.other hq2 hr2) (RowN.other hmr2 hr2) hBw (show w.heap.size ≤ w.heap.size + 1 by omega) x y z)
        obtain ⟨a5, c5, rfl, -, -, -⟩ := hq2
        obtain ⟨a6, c6, rfl, -, -, -⟩ := hmr2
        obtain ⟨m0, m1, m2⟩ := mcells hmg
        obtain ⟨r0, r1, r2⟩ := gcells hr2
        have s0 := is_some r0
        have s1 := is_some r1
        have s2 := is_some r2
        have f0 := heap_free hr2 0
        have f1 := heap_free hr2 1
        have f2 := heap_free hr2 2
        clear hmg hr2 hBw hB
        simp only [List.length_nil] at m1 HSTEP
        generalize M.length = ML at *
        go_wp2
        refine bodyPost_ret (v := GcV on (.slice a5 0 c5) (.slice a6 ML c6)) (by simp [results, Tryz.results9, go_sem, s0, s1, s2]) rfl ?_
        have h9 := HSTEP.out (.bool on) (.slice a5 0 c5) (.slice a6 ML c6)
        rw [HRES.out]
        exact h9
      | cons k Q =>
        clear HNL
        have CN := next_walk (w.heap.size + 1 + 1) on qv2 mv2 ov k Q M o w wr hmg hq2 hmr2 HT.out HO.out (by omega) (HB1.out.trans (hB.mono (by omega))) hol HOU.out HRAW.out (by simp at l1; omega) (by omega) l3
        have HBR := Lib.hid hB
        obtain ⟨a5, c5, rfl, -, -, -⟩ := hq2
        obtain ⟨m0, m1, m2⟩ := mcells hmg
        have hnz : (((k :: Q).length : Int) == 0) = false := by rw [beq_eq_false_iff_ne]; simp; omega
        generalize (k :: Q).length = QL at m1 hnz
        clear hmg hmr2 hB l1 l2 l3
        go_wp2_with fail
        refine CN.mono ?_
        rintro e w5 ⟨rfl, hp⟩
        have HP := Lib.hid (show NextPost (w.heap.size + 1 + 1) on (stepS o (j + 1) (q, m)) w1 w5 by
          obtain ⟨qv6, mv6, hg6, hq6, hm6, hb6⟩ := hp
          rw [HS.out]
          exact ⟨qv6, mv6, hg6, hq6, hm6, HBR.out.trans hb6⟩)
        clear hp CN m0 m1 m2 HS
        go_wp2
        go_roundw
        case rel => exact ⟨j + 1, by omega, by go_num, HP.out⟩
        case measure => simp [intOf]; omega
    · have h1' : ¬ (j : Int) < (n : Int) := by omega
      obtain rfl : j = n := by omega
      have hr2 : wr.heap[w.heap.size + 1]? = some (GCells false (.slice none 0 0) (.slice none 0 0)) := (hB.block _ (by omega)).trans HR1.out
      have hBw : Below w.heap.size w wr := HB1.out.trans (hB.mono (by omega))
      have HSTEP := Lib.hid (fun x y z => step_out (s := stepS o j (q, m)) (on := on) (RowN.other hq2 hr2) (RowN.other hmr2 hr2) hBw (show w.heap.size ≤ w.heap.size + 1 by omega) x y z)
      obtain ⟨a5, c5, rfl, -, -, -⟩ := hq2
      obtain ⟨a6, c6, rfl, -, -, -⟩ := hmr2
      obtain ⟨m0, m1, m2⟩ := mcells hmg
      obtain ⟨r0, r1, r2⟩ := gcells hr2
      have s0 := is_some r0
      have s1 := is_some r1
      have s2 := is_some r2
      have f0 := heap_free hr2 0
      have f1 := heap_free hr2 1
      have f2 := heap_free hr2 2
      clear hmg hr2 hBw hB
      generalize (stepS o j (q, m)).2.length = ML at *
      generalize (stepS o j (q, m)).1.length = QL at *
      go_wp2
      refine bodyPost_ret (v := GcV on (.slice a5 QL c5) (.slice a6 ML c6)) (by simp [results, Tryz.results9, go_sem, s0, s1, s2]) rfl ?_
      have h9 := HSTEP.out (.bool on) (.slice a5 QL c5) (.slice a6 ML c6)
      exact h9
theorem step_walk (on : Bool) (qv mv ov : Value) (q m : List (List UInt8)) (o : List Snp) (n : Nat) (w : World) (hq : StrRow w qv q) (hmr : StrRow w mv m) (hT : ErrT w) (ho : SnpRow w ov o) (hol : o.length ≤ 1100000) (hou : upS (namesR o)) (hraw : ∀ x ∈ o, x.2.length ≤ 1000000) (hn : n ≤ 1000) (hql : q.length + 1084 * n ≤ 1096000) (hml : m.length + 1084 * n ≤ 1096000) (hup : upS m) :
    Calls Tryz.prog 9 #[GcV on qv mv, ov, .int .i64 n] w (StepPost on (stepS o n (q, m)) w) :=
  stepZ_walk on qv mv ov q m o n n (by omega) w hq hmr hT ho hol hou hraw hn hql hml hup
end Go.Proofs.YtengciicdnkgaaaGreatDoor

namespace Go.Proofs.YtengciicdnkgaaaGreatDoor
open Go.RowKit

structure SmallO (l : List Snp) : Prop where
  len : l.length ≤ 120
  raw : ∀ x ∈ l, x.2.length ≤ 20000
  fit : fit5 (namesR l) = true
  tot : rawsL l ≤ 20000
def SmallPost (l : List Snp) (w : World) (e : Ending) (w' : World) : Prop := ∃ b : Bool, e = .returned (.bool b) ∧ (b = true → SmallO l) ∧ Below w.heap.size w w'

set_option maxHeartbeats 4000000 in
set_option maxRecDepth 100000 in
theorem small20_walk (v : Value) (l : List Snp) (w : World) (hr : SnpRow w v l) (hlm : l.length ≤ 140737488355328) (hrl : ∀ x ∈ l, x.2.length ≤ 140737488355328) :
    Calls Tryz.prog 6 #[v] w (SmallPost l w) := by
  have HR := Lib.hid hr
  have HRL := Lib.hid hrl
  have HNO := Lib.hid (fun (w' : World) (hB : Below w.heap.size w w') => show SmallPost l w (.returned (.bool false)) w' from ⟨false, rfl, (fun h => by cases h), hB⟩)
  obtain ⟨a, c, rfl, hc, hm, hx⟩ := hr
  have HX := Lib.hid hx
  clear hx hrl
  by_cases h120 : 120 < l.length
  · have h1' : (120 : Int) < (l.length : Int) := by omega
    go_enter Tryz.func6, Tryz.ntmps6
    go_wp2
    go_ret
    exact HNO.out _ (Below.refl _ _)
  have h1' : ¬ (120 : Int) < (l.length : Int) := by omega
  have hlen : l.length ≤ 120 := by omega
  have HLEN := Lib.hid hlen
  go_enter Tryz.func6, Tryz.ntmps6
  go_wp2
  go_loopw [3, 11] (fun t i wr => ∃ k tot : Nat, k ≤ l.length ∧ i = .int .i64 k ∧ t = .int .i64 tot ∧ tot ≤ 20000 ∧ tot = rawsL (l.take k) ∧ (∀ x ∈ l.take k, x.2.length ≤ 20000) ∧ Below w.heap.size w wr) (fun _ i _ => l.length - (intOf i).toNat)
  case atStart => exact ⟨0, 0, Nat.zero_le _, rfl, rfl, by omega, by simp [rawsL], by simp, Below.refl _ _⟩
  case round =>
    obtain ⟨k, tot, hk, rfl, rfl, ht, hsum, hall, hB⟩ := hrel
    have HSUM := Lib.hid hsum
    clear hsum
    have HB := Lib.hid hB
    have HALL := Lib.hid hall
    clear hall
    by_cases h2 : k < l.length
    · have h2' : (k : Int) < (l.length : Int) := by omega
      have hx := HX.out
      rcases hx with hx | ⟨b, o, rfl, hx⟩
      · exfalso; rw [hx] at h2; simp at h2
      obtain ⟨hx1, hx2⟩ := snp_cells hx h2
      have hc1 := cell_below hB hx1
      have hc2 := cell_below hB hx2
      have HTK := Lib.hid (List.take_succ_eq_append_getElem h2)
      have hql := HRL.out l[k] (by simp)
      have HSS := Lib.hid (rawsL_step h2)
      clear hx hx1 hx2 hB
      generalize l[k] = y at *
      obtain ⟨p, q⟩ := y
      simp only at hql
      have hw0 : IntKind.i64.wrap ((tot : Int) + (q.length : Int)) = (tot : Int) + (q.length : Int) := by rw [IntKind.wrap_i64]; omega
      by_cases h3 : 20000 < tot + q.length
      · have h3' : (20000 : Int) < (tot : Int) + (q.length : Int) := by omega
        go_wp2
        go_ret
        exact HNO.out _ (HB.out.alloc HB.out.size _)
      have h3' : ¬ (20000 : Int) < (tot : Int) + (q.length : Int) := by omega
      by_cases h4 : 100 < p.length
      · have h4' : (100 : Int) < (p.length : Int) := by omega
        go_wp2
        go_ret
        exact HNO.out _ (HB.out.alloc HB.out.size _)
      have h4' : ¬ (100 : Int) < (p.length : Int) := by omega
      have HQ := Lib.hid (show q.length ≤ 20000 by omega)
      have HT := Lib.hid (show tot + q.length ≤ 20000 by omega)
      clear h3 h4
      go_wp2
      go_roundw
      case rel =>
        refine ⟨k + 1, tot + q.length, by omega, by go_num, by simp, HT.out, by rw [HSS.out, HSUM.out], ?_, HB.out.alloc HB.out.size _⟩
        rw [HTK.out]
        intro x hx
        rcases List.mem_append.1 hx with hx | hx
        · exact HALL.out x hx
        · rw [List.mem_singleton.1 hx]; exact HQ.out
      case measure => simp [intOf]; omega
    · have h2' : ¬ (k : Int) < (l.length : Int) := by omega
      have CF := rfitO_walk (.slice a l.length c) l wr (HR.out.below hB) (by omega)
      obtain ⟨f, hf⟩ : ∃ f, fit5 (namesR l) = f := ⟨_, rfl⟩
      rw [hf] at CF
      have HP := Lib.hid (fun (w' : World) (hB' : Below w.heap.size w w') => show SmallPost l w (.returned (.bool f)) w' from ⟨f, rfl, (fun h => ⟨HLEN.out, by have := HALL.out; rwa [List.take_of_length_le (by omega)] at this, by rw [hf, h], by have h7 := HSUM.out; rw [List.take_of_length_le (by omega)] at h7; omega⟩), hB'⟩)
      clear hf hB
      go_wp2_with fail
      refine CF.mono ?_
      rintro e w2 ⟨rfl, hb2⟩
      have hB2 := below_chain HB.out hb2 HB.out.size
      go_wp2
      go_ret
      exact HP.out _ hB2
end Go.Proofs.YtengciicdnkgaaaGreatDoor
