/- The reference's answers on nodes: fitFile, fitDir. The reference's answers on nodes: Fit, Same. -/
import Derived.Test.YtaompdnnkfmjhaaGreatDoorJCList
import Derived.Test.YtaompdnnkfmjhaaGreatDoorJRange
import Derived.Test.YtaompdnnkfmjhaaGreatDoorJPlain
import Derived.Sort.Walk0
namespace Go.Proofs.YtaompdnnkfmjhaaGreatDoor
open Go.RowKit

def fileB (l : List Prt) : Bool := l.all partOk && decide (wholeP l ≤ 32768)
theorem whole_step {l : List Prt} {k : Nat} (h : k < l.length) : wholeP (l.take (k + 1)) = wholeP (l.take k) + l[k].2 := by
  unfold wholeP
  rw [List.take_succ_eq_append_getElem h, List.map_append, List.sum_append]; simp
theorem whole_bound : ∀ l : List Prt, l.all partOk = true → 0 ≤ wholeP l ∧ wholeP l ≤ 4096 * l.length
  | [], _ => by simp [wholeP]
  | p :: l, h => by
    rw [List.all_cons, Bool.and_eq_true] at h
    have ih := whole_bound l h.2
    have hp := h.1
    unfold partOk at hp
    simp only [Bool.and_eq_true, beq_iff_eq, decide_eq_true_eq] at hp
    have e : wholeP (p :: l) = p.2 + wholeP l := by simp [wholeP]
    rw [e, List.length_cons]
    omega

set_option maxHeartbeats 2000000 in
set_option maxRecDepth 100000 in
theorem rfile11_walk (v : Value) (l : List Prt) (w : World) (hr : PrtRow w v l) (hcnt : l.length ≤ 2000) :
    Calls Tryz.prog 62 #[v] w fun e w' => e = .returned (.bool (fileB l)) ∧ Below w.heap.size w w' := by
  obtain ⟨a, c, rfl, hc, hm, hx⟩ := hr
  have HX := Lib.hid hx
  clear hx
  go_enter Tryz.func62, Tryz.ntmps62
  go_wp2
  go_loopw [3, 4] (fun n i wr => ∃ k : Nat, k ≤ l.length ∧ i = .int .i64 k ∧ n = .int .i64 (wholeP (l.take k)) ∧ (l.take k).all partOk = true ∧ w = wr) (fun _ i _ => l.length - (intOf i).toNat)
  case atStart => exact ⟨0, Nat.zero_le _, rfl, by simp [wholeP], by simp, rfl⟩
  case round =>
    obtain ⟨k, hk, rfl, rfl, hall, rfl⟩ := hrel
    have hwb := whole_bound _ hall
    rw [List.length_take, Nat.min_eq_left hk] at hwb
    have HALL := Lib.hid hall
    clear hall
    by_cases h1 : k < l.length
    · have h1' : (k : Int) < (l.length : Int) := by omega
      have hx := HX.out
      rcases hx with hx | ⟨b, o, rfl, hx⟩
      · exfalso; rw [hx] at h1; simp at h1
      obtain ⟨hc1, hc2⟩ := prt_cells hx h1
      have HW := Lib.hid (whole_step h1)
      have HYES := Lib.hid (fun (h : partOk l[k] = true) => (show (l.take (k + 1)).all partOk = true by
        rw [List.take_succ_eq_append_getElem h1, List.all_append, HALL.out]; simp [h]))
      have HNO := Lib.hid (fun (h : partOk l[k] = false) => (show fileB l = false by
        unfold fileB
        rw [show l.all partOk = false by rw [List.all_eq_false]; exact ⟨_, List.getElem_mem h1, by simp [h]⟩]; rfl))
      have HDEF := Lib.hid (show partOk l[k] = (l[k].1.length == 32 && (decide (1 ≤ l[k].2) && decide (l[k].2 ≤ 4096))) from rfl)
      clear hx
      generalize wholeP (l.take k) = wh at *
      generalize l[k] = y at *
      obtain ⟨key, sz⟩ := y
      simp only at hc1 hc2 HW HYES HNO HDEF
      by_cases g1 : key.length = 32
      · have g1' : ((key.length : Int) != 32) = false := by rw [bne_eq_false_iff_eq]; omega
        by_cases g2 : sz < 1
        · have HF := Lib.hid (HNO.out (by rw [HDEF.out, decide_eq_false (show ¬ 1 ≤ sz by omega)]; simp))
          clear HYES HNO HDEF g1
          go_wp2
          go_ret
          exact ⟨by rw [HF.out]; rfl, Below.refl _ _⟩
        · by_cases g3 : 4096 < sz
          · have HF := Lib.hid (HNO.out (by rw [HDEF.out, decide_eq_false (show ¬ sz ≤ 4096 by omega)]; simp))
            clear HYES HNO HDEF g1
            go_wp2
            go_ret
            exact ⟨by rw [HF.out]; rfl, Below.refl _ _⟩
          · have HF := Lib.hid (HYES.out (by rw [HDEF.out, decide_eq_true (show 1 ≤ sz by omega), decide_eq_true (show sz ≤ 4096 by omega)]; simpa using g1))
            have hwr : IntKind.i64.wrap (wh + sz) = wh + sz := by rw [IntKind.wrap_i64]; omega
            clear HYES HNO HDEF g1
            go_wp2
            go_roundw
            case rel => exact ⟨k + 1, by omega, by go_num, by rw [HW.out], HF.out, by first | rfl | trivial⟩
            case measure => simp [intOf]; omega
      · have g1' : ((key.length : Int) != 32) = true := by rw [bne_iff_ne]; omega
        have HF := Lib.hid (HNO.out (by rw [HDEF.out]; simp [g1]))
        clear HYES HNO HDEF g1
        go_wp2
        go_ret
        exact ⟨by rw [HF.out]; rfl, Below.refl _ _⟩
    · have h1' : ¬ (k : Int) < (l.length : Int) := by omega
      obtain rfl : k = l.length := by omega
      have hall := HALL.out
      rw [List.take_of_length_le (Nat.le_refl _)] at hall hwb ⊢
      have HF := Lib.hid (show fileB l = decide (wholeP l ≤ 32768) by unfold fileB; rw [hall]; rfl)
      generalize wholeP l = wh at *
      clear HALL hall
      go_wp2
      go_ret
      exact ⟨by rw [HF.out]; rfl, Below.refl _ _⟩

theorem dir_step {l : List Ent} {k : Nat} (h1 : k < l.length) (hu : risesE (l.take k)) (h : ∀ h0 : 0 < k, (l[k - 1]'(by omega)).1 < l[k].1) : risesE (l.take (k + 1)) := by
  unfold risesE at *
  rw [List.take_succ_eq_append_getElem h1, List.map_append, List.pairwise_append]
  refine ⟨hu, by simp, ?_⟩
  intro x hx y hy
  simp only [List.map_cons, List.map_nil, List.mem_singleton] at hy
  subst hy
  rcases Nat.eq_zero_or_pos k with h0 | h0
  · subst h0; simp at hx
  · have hlast := h h0
    have e : l.take k = l.take (k - 1) ++ [l[k - 1]'(by omega)] := by
      have := List.take_succ_eq_append_getElem (l := l) (i := k - 1) (by omega)
      rwa [show k - 1 + 1 = k by omega] at this
    rw [e, List.map_append, List.pairwise_append] at hu
    rw [e, List.map_append, List.mem_append] at hx
    rcases hx with hx | hx
    · exact List.lt_trans (hu.2.2 x hx _ (by simp)) hlast
    · simp only [List.map_cons, List.map_nil, List.mem_singleton] at hx
      subst hx; exact hlast
theorem dir_not {l : List Ent} {k : Nat} (h1 : k < l.length) (h0 : 0 < k) (h : ¬ (l[k - 1]'(by omega)).1 < l[k].1) : ¬ risesE l := by
  intro hu
  unfold risesE at hu
  rw [List.pairwise_map] at hu
  exact h (List.pairwise_iff_getElem.1 hu (k - 1) k (by omega) h1 (by omega))
noncomputable def dirB (l : List Ent) : Bool := l.all entOk && @decide (risesE l) (Classical.propDecidable _)
theorem dirB_iff {l : List Ent} : dirB l = true ↔ (∀ e ∈ l, entOk e = true) ∧ risesE l := by
  unfold dirB
  rw [Bool.and_eq_true, List.all_eq_true, @decide_eq_true_iff _ (Classical.propDecidable _)]
theorem dirB_no {l : List Ent} (h : ¬ ((∀ e ∈ l, entOk e = true) ∧ risesE l)) : dirB l = false := by
  cases e : dirB l with
  | false => rfl
  | true => exact absurd (dirB_iff.1 e) h

set_option maxHeartbeats 8000000 in
set_option maxRecDepth 100000 in
theorem rdir11_walk (v : Value) (l : List Ent) (w : World) (hr : EntRow w v l) (hcnt : l.length ≤ 2000) (hnl : ∀ e ∈ l, e.1.length ≤ 1100000) :
    Calls Tryz.prog 63 #[v] w fun e w' => e = .returned (.bool (dirB l)) ∧ Below w.heap.size w w' := by
  have HN := Lib.hid (fun h : ¬ ((∀ e ∈ l, entOk e = true) ∧ risesE l) => dirB_no h)
  have HY := Lib.hid (fun h : (∀ e ∈ l, entOk e = true) ∧ risesE l => dirB_iff.2 h)
  generalize dirB l = res at *
  obtain ⟨a, c, rfl, hc, hm, hx⟩ := hr
  have HX := Lib.hid hx
  have HNL := Lib.hid hnl
  clear hx hnl
  go_enter Tryz.func63, Tryz.ntmps63
  go_wp2
  go_loopw [3] (fun i wr => ∃ k : Nat, k ≤ l.length ∧ i = .int .i64 k ∧ (∀ e ∈ l.take k, entOk e = true) ∧ risesE (l.take k) ∧ Below w.heap.size w wr) (fun i _ => l.length - (intOf i).toNat)
  case atStart => exact ⟨0, Nat.zero_le _, rfl, by simp, by simp [risesE], Below.refl _ _⟩
  case round =>
    obtain ⟨k, hk, rfl, ha, hu, hB⟩ := hrel
    have HA := Lib.hid ha
    have HU := Lib.hid hu
    have HB := Lib.hid hB
    clear ha hu
    by_cases h1 : k < l.length
    · have h1' : (k : Int) < (l.length : Int) := by omega
      have hx := HX.out
      rcases hx with hx | ⟨b, o, rfl, hx⟩
      · exfalso; rw [hx] at h1; simp at h1
      obtain ⟨hx1, hx2, hx3, hx4⟩ := ent_cells hx h1
      have hc1 := cell_below hB hx1
      have hc2 := cell_below hB hx2
      have hc3 := cell_below hB hx3
      have hc4 := cell_below hB hx4
      have HOK := Lib.hid (fun (h : entOk l[k] = true) => (show ∀ e ∈ l.take (k + 1), entOk e = true by
        intro e he
        rw [List.take_succ_eq_append_getElem h1] at he
        rcases List.mem_append.1 he with he | he
        · exact HA.out e he
        · simp at he; subst he; exact h))
      have HNO := Lib.hid (fun (h : entOk l[k] = false) => HN.out (fun q => by have := q.1 _ (List.getElem_mem h1); rw [h] at this; cases this))
      have HDEF := Lib.hid (show entOk l[k] = ((l[k].2.1 == 2 || l[k].2.1 == 3 && !l[k].2.2.1) && (l[k].2.2.2.length == 32 && nameB l[k].1)) from rfl)
      have HUS := Lib.hid (fun h => dir_step h1 HU.out h)
      have HDN := Lib.hid (fun h0 h => HN.out (fun q => dir_not h1 h0 h q.2))
      have hnl1 := HNL.out l[k] (List.getElem_mem h1)
      have hprev : k = 0 ∨ (0 < k ∧ ∃ p0 : List UInt8, p0 = (l[k - 1]'(by omega)).1 ∧ w.cell? ⟨b, o + (k - 1) * 4, none⟩ = some (S p0)) := by
        rcases Nat.eq_zero_or_pos k with h0 | h0
        · exact .inl h0
        · exact .inr ⟨h0, _, rfl, (ent_cells hx (j := k - 1) (by omega)).1⟩
      obtain ⟨w1, hw1, hB1, hr0⟩ : ∃ w1, w1 = wr.alloc (.cells #[S l[k].1, .int .i64 l[k].2.1, .bool l[k].2.2.1, S l[k].2.2.2] 82) ∧ Below wr.heap.size wr w1 ∧ w1.heap[wr.heap.size]? = some (.cells #[S l[k].1, .int .i64 l[k].2.1, .bool l[k].2.2.1, S l[k].2.2.2] 82 (0, 0)) :=
        ⟨_, rfl, (Below.refl _ _).alloc (Nat.le_refl _) _, heap_alloc_new _ _⟩
      have HB1 := Lib.hid (below_chain HB.out hB1 HB.out.size)
      have CN : ∀ p : LaterOf w1, Calls Tryz.prog 84 #[S l[k].1] p.world fun e w' => e = .returned (.bool (nameB l[k].1)) ∧ w' = p.world := fun p => (rname_walk l[k].1 p.world hnl1).mono fun _ _ h => ⟨h.1, h.2.symm⟩
      obtain ⟨⟨r0, r1, r2, r3⟩, -, -⟩ := box4 hr0
      replace r0 := LaterOf.cell r0
      replace r1 := LaterOf.cell r1
      replace r2 := LaterOf.cell r2
      replace r3 := LaterOf.cell r3
      have hord : (k = 0 ∧ ¬ (0 : Int) < (k : Int)) ∨ (∃ p0 : List UInt8, ∃ h0 : 0 < k, p0 = (l[k - 1]'(by omega)).1 ∧ (∀ q : LaterOf w1, q.world.cell? ⟨b, o + (k - 1) * 4, none⟩ = some (S p0))) := by
        rcases hprev with h0 | ⟨h0, p0, hp0, hp2⟩
        · exact .inl ⟨h0, by omega⟩
        · exact .inr ⟨p0, h0, hp0, LaterOf.cell (cell_below HB1.out hp2)⟩
      clear hx hx1 hx2 hx3 hx4 hB hr0 hprev hB1
      go_upto_region 5 with fail
      rw [← hw1]
      clear hw1 hc1 hc2 hc3 hc4
      generalize l[k] = y at *
      obtain ⟨nm, kd, ex, key⟩ := y
      simp only at r0 r1 r2 r3 CN HUS HDN HDEF hnl1
      generalize nameB nm = nb at *
      cases nb with
      | false =>
        have HF := Lib.hid (HNO.out (by rw [HDEF.out]; simp))
        clear hord
        (refine wp_region_later (by kernel_rfl) (by kernel_rfl) ?_; (repeat (go_big_quiet_step (first | (go_at_call 84; exact LaterOf.still _ (CN _))))); refine wpQuiet_nil ?_; intro _ hw1; obtain ⟨lw, hw2⟩ := hw1; subst hw2)
        go_wp2
        go_ret
        exact ⟨by rw [HF.out]; rfl, below_chain HB1.out lw.below HB1.out.size⟩
      | true =>
        obtain ⟨b2, f2⟩ : ∃ q, (kd != 2) = q := ⟨_, rfl⟩
        obtain ⟨b3, f3⟩ : ∃ q, (kd != 3) = q := ⟨_, rfl⟩
        obtain ⟨bk, fk⟩ : ∃ q, ((key.length : Int) != 32) = q := ⟨_, rfl⟩
        have HDEF2 := Lib.hid (show entOk (nm, kd, ex, key) = ((!b2 || (!b3 && !ex)) && !bk) by
          have e2 : (kd == 2) = !b2 := by rw [← f2, bne, Bool.not_not]
          have e3 : (kd == 3) = !b3 := by rw [← f3, bne, Bool.not_not]
          have ek : (key.length == 32) = !bk := by
            rw [← fk, bne, Bool.not_not, Bool.eq_iff_iff, beq_iff_eq, beq_iff_eq]; omega
          rw [HDEF.out, e2, e3, ek]
          cases b2 <;> cases b3 <;> cases ex <;> cases bk <;> rfl)
        clear HDEF
        have hcase : (∃ h : k = 0, True) ∨ (∃ p0 : List UInt8, ∃ h0 : 0 < k, p0 = (l[k - 1]'(by omega)).1 ∧ (∀ q : LaterOf w1, q.world.cell? ⟨b, o + (k - 1) * 4, none⟩ = some (S p0)) ∧ ((p0 < nm ∧ Op.bytesLess p0 nm = true) ∨ (¬ p0 < nm ∧ Op.bytesLess p0 nm = false))) := by
          rcases hord with ⟨h0, _⟩ | ⟨p0, h0, hp0, hpc⟩
          · exact .inl ⟨h0, trivial⟩
          · refine .inr ⟨p0, h0, hp0, hpc, ?_⟩
            rw [bytesLess_eq]
            by_cases h : p0 < nm
            · exact .inl ⟨h, by simpa using h⟩
            · exact .inr ⟨h, by simpa using h⟩
        clear hord
        rcases hcase with ⟨h0, -⟩ | ⟨p0, h0, hp0, hpc, ⟨hlt, hbl⟩ | ⟨hlt, hbl⟩⟩
        · have HU2 := Lib.hid (HUS.out (fun h => by omega))
          have hk1 : ¬ (0 : Int) < (k : Int) := by omega
          have hkd : decide (0 < k) = false := decide_eq_false (by omega)
          clear h0 HUS HDN
          cases b2 <;> cases b3 <;> cases ex <;> cases bk
          all_goals first
          | (have HF := Lib.hid (HNO.out (by rw [HDEF2.out]; rfl)); clear HOK HNO HDEF2; (refine wp_region_later (by kernel_rfl) (by kernel_rfl) ?_; (repeat (go_big_quiet_step (first | (go_at_call 84; exact LaterOf.still _ (CN _))))); refine wpQuiet_nil ?_; intro _ hw1; obtain ⟨lw, hw2⟩ := hw1; subst hw2); go_wp2; go_ret; exact ⟨by rw [HF.out]; rfl, below_chain HB1.out lw.below HB1.out.size⟩)
          | (have HF := Lib.hid (HOK.out (by rw [HDEF2.out]; rfl)); clear HOK HNO HDEF2; (refine wp_region_later (by kernel_rfl) (by kernel_rfl) ?_; (repeat (go_big_quiet_step (first | (go_at_call 84; exact LaterOf.still _ (CN _))))); refine wpQuiet_nil ?_; intro _ hw1; obtain ⟨lw, hw2⟩ := hw1; subst hw2); go_wp2; go_roundw; (case rel => exact ⟨k + 1, by omega, by go_num, HF.out, HU2.out, below_chain HB1.out lw.below HB1.out.size⟩); (case measure => simp [intOf]; omega))
        · have HU2 := Lib.hid (HUS.out (fun _ => by rw [← hp0]; exact hlt))
          have hk1 : (0 : Int) < (k : Int) := by omega
          have hkd : decide (0 < k) = true := decide_eq_true h0
          have hwr : IntKind.i64.wrap ((k : Int) - 1) = ((k - 1 : Nat) : Int) := by rw [IntKind.wrap_i64]; omega
          have hkm : k - 1 < l.length := by omega
          have hkm' : ((k - 1 : Nat) : Int) < (l.length : Int) := by omega
          clear hp0 hlt HUS HDN
          cases b2 <;> cases b3 <;> cases ex <;> cases bk
          all_goals first
          | (have HF := Lib.hid (HNO.out (by rw [HDEF2.out]; rfl)); clear HOK HNO HDEF2; (refine wp_region_later (by kernel_rfl) (by kernel_rfl) ?_; (repeat (go_big_quiet_step (first | (go_at_call 84; exact LaterOf.still _ (CN _))))); refine wpQuiet_nil ?_; intro _ hw1; obtain ⟨lw, hw2⟩ := hw1; subst hw2); go_wp2; go_ret; exact ⟨by rw [HF.out]; rfl, below_chain HB1.out lw.below HB1.out.size⟩)
          | (have HF := Lib.hid (HOK.out (by rw [HDEF2.out]; rfl)); clear HOK HNO HDEF2; (refine wp_region_later (by kernel_rfl) (by kernel_rfl) ?_; (repeat (go_big_quiet_step (first | (go_at_call 84; exact LaterOf.still _ (CN _))))); refine wpQuiet_nil ?_; intro _ hw1; obtain ⟨lw, hw2⟩ := hw1; subst hw2); go_wp2; go_roundw; (case rel => exact ⟨k + 1, by omega, by go_num, HF.out, HU2.out, below_chain HB1.out lw.below HB1.out.size⟩); (case measure => simp [intOf]; omega))
        · have HF := Lib.hid (HDN.out h0 (by rw [← hp0]; exact hlt))
          have hk1 : (0 : Int) < (k : Int) := by omega
          have hkd : decide (0 < k) = true := decide_eq_true h0
          have hwr : IntKind.i64.wrap ((k : Int) - 1) = ((k - 1 : Nat) : Int) := by rw [IntKind.wrap_i64]; omega
          have hkm : k - 1 < l.length := by omega
          have hkm' : ((k - 1 : Nat) : Int) < (l.length : Int) := by omega
          clear hp0 hlt HUS HDN HOK HNO HDEF2 f2 f3 fk
          (refine wp_region_later (by kernel_rfl) (by kernel_rfl) ?_; (repeat (go_big_quiet_step (first | (go_at_call 84; exact LaterOf.still _ (CN _))))); refine wpQuiet_nil ?_; intro _ hw1; obtain ⟨lw, hw2⟩ := hw1; subst hw2)
          go_wp2
          go_ret
          exact ⟨by rw [HF.out]; rfl, below_chain HB1.out lw.below HB1.out.size⟩
    · have h1' : ¬ (k : Int) < (l.length : Int) := by omega
      have HF := Lib.hid (HY.out (by
        have h2 := HA.out
        have h3 := HU.out
        rw [List.take_of_length_le (by omega)] at h2 h3
        exact ⟨h2, h3⟩))
      go_wp2
      go_ret
      exact ⟨by rw [HF.out]; rfl, HB.out⟩
end Go.Proofs.YtaompdnnkfmjhaaGreatDoor

namespace Go.Proofs.YtaompdnnkfmjhaaGreatDoor
open Go.RowKit

/-- What Fit says, case by case. -/
theorem fitN_one {d : List UInt8} {ps : List Prt} {es : List Ent} : fitN ⟨1, d, ps, es⟩ = (decide (1 ≤ d.length) && (decide (d.length ≤ 4096) && (ps.length == 0 && es.length == 0))) := by
  rw [Bool.eq_iff_iff, fitN_iff]
  simp only [Bool.and_eq_true, decide_eq_true_eq, beq_iff_eq]
  constructor
  · rintro (⟨_, h2, h3, h4, h5⟩ | ⟨h, _⟩ | ⟨h, _⟩)
    · simp only at h2 h3 h4 h5
      exact ⟨List.length_pos_iff.2 h2, h3, by rw [h4]; rfl, by rw [h5]; rfl⟩
    · cases h
    · cases h
  · rintro ⟨h1, h2, h3, h4⟩
    exact .inl ⟨rfl, List.length_pos_iff.1 h1, h2, List.eq_nil_of_length_eq_zero h3, List.eq_nil_of_length_eq_zero h4⟩
theorem fitN_two {d : List UInt8} {ps : List Prt} {es : List Ent} : fitN ⟨2, d, ps, es⟩ = (d == [] && (es.length == 0 && (decide (ps.length ≤ 1024) && fileB ps))) := by
  rw [Bool.eq_iff_iff, fitN_iff]
  simp only [Bool.and_eq_true, decide_eq_true_eq, beq_iff_eq, fileB, List.all_eq_true]
  constructor
  · rintro (⟨h, _⟩ | ⟨_, h2, h3, h4⟩ | ⟨h, _⟩)
    · cases h
    · simp only at h2 h3 h4
      exact ⟨h2, by rw [h3]; rfl, h4.len, h4.ok, h4.whole⟩
    · cases h
  · rintro ⟨h1, h2, h3, h4, h5⟩
    exact .inr (.inl ⟨rfl, h1, List.eq_nil_of_length_eq_zero h2, h3, h4, h5⟩)
theorem fitN_three {d : List UInt8} {ps : List Prt} {es : List Ent} : fitN ⟨3, d, ps, es⟩ = (d == [] && (ps.length == 0 && (decide (es.length ≤ 60) && dirB es))) := by
  rw [Bool.eq_iff_iff, fitN_iff]
  simp only [Bool.and_eq_true, decide_eq_true_eq, beq_iff_eq, dirB_iff]
  constructor
  · rintro (⟨h, _⟩ | ⟨h, _⟩ | ⟨_, h2, h3, h4⟩)
    · cases h
    · cases h
    · simp only at h2 h3 h4
      exact ⟨h2, by rw [h3]; rfl, h4.len, h4.ok, h4.rises⟩
  · rintro ⟨h1, h2, h3, h4, h5⟩
    exact .inr (.inr ⟨rfl, h1, List.eq_nil_of_length_eq_zero h2, h3, h4, h5⟩)
theorem fitN_else {k : Int} {d : List UInt8} {ps : List Prt} {es : List Ent} (h1 : k ≠ 1) (h2 : k ≠ 2) (h3 : k ≠ 3) : fitN ⟨k, d, ps, es⟩ = false := by
  refine fitN_no ?_
  rintro (⟨h, _⟩ | ⟨h, _⟩ | ⟨h, _⟩)
  · exact h1 h
  · exact h2 h
  · exact h3 h

set_option maxHeartbeats 4000000 in
set_option maxRecDepth 100000 in
theorem rfit11_walk (vp ve : Value) (n : Nod) (w : World) (hr : NodRow w n vp ve) (hd : n.data.length ≤ 1100000) (hp : n.parts.length ≤ 1100000) (he : n.ents.length ≤ 1100000) (hnl : ∀ e ∈ n.ents, e.1.length ≤ 1100000) :
    Calls Tryz.prog 38 #[NodV n vp ve] w fun e w' => e = .returned (.bool (fitN n)) ∧ Below w.heap.size w w' := by
  obtain ⟨kd, d, ps, es⟩ := n
  simp only at hd hp he hnl
  obtain ⟨w1, hw1, hB1, hz⟩ : ∃ w1, w1 = w.alloc (.cells #[.int .i64 kd, S d, vp, ve] 36) ∧ Below w.heap.size w w1 ∧ w1.heap[w.heap.size]? = some (.cells #[.int .i64 kd, S d, vp, ve] 36 (0, 0)) :=
    ⟨_, rfl, (Below.refl _ _).alloc (Nat.le_refl _) _, heap_alloc_new _ _⟩
  have hr1 := hr.below hB1
  have CF := fun h => rfile11_walk vp ps w1 hr1.parts h
  have CD := fun h => rdir11_walk ve es w1 hr1.ents h hnl
  obtain ⟨⟨z0, z1, z2, z3⟩, -, -⟩ := box4 hz
  obtain ⟨a1, c1, rfl⟩ := row_slice hr.parts
  obtain ⟨a2, c2, rfl⟩ := row_slice hr.ents
  clear hr hr1 hz hnl
  by_cases k1 : kd = 1
  · subst k1
    have HF := Lib.hid (fitN_one (d := d) (ps := ps) (es := es))
    generalize fitN ⟨1, d, ps, es⟩ = res at *
    obtain ⟨q1, e1⟩ : ∃ q, decide ((1 : Int) ≤ (d.length : Int)) = q := ⟨_, rfl⟩
    obtain ⟨q2, e2⟩ : ∃ q, decide ((d.length : Int) ≤ 4096) = q := ⟨_, rfl⟩
    obtain ⟨q3, e3⟩ : ∃ q, ((ps.length : Int) == 0) = q := ⟨_, rfl⟩
    obtain ⟨q4, e4⟩ : ∃ q, ((es.length : Int) == 0) = q := ⟨_, rfl⟩
    have HG := Lib.hid (show res = (q1 && (q2 && (q3 && q4))) by
      rw [HF.out, ← e1, ← e2, ← e3, ← e4]
      congr 1
      · rw [decide_eq_decide]; omega
      · congr 1
        · rw [decide_eq_decide]; omega
        · congr 1
          · rw [Bool.eq_iff_iff, beq_iff_eq, beq_iff_eq]; omega
          · rw [Bool.eq_iff_iff, beq_iff_eq, beq_iff_eq]; omega)
    clear HF CF CD
    cases q1 <;> cases q2 <;> cases q3 <;> cases q4
    all_goals
      go_enter Tryz.func38, Tryz.ntmps38
      go_upto_region 1 with fail
      rw [← hw1]
      clear hw1
      go_wp2
      go_ret
      exact ⟨by rw [HG.out]; rfl, hB1⟩
  by_cases k2 : kd = 2
  · subst k2
    have HF := Lib.hid (fitN_two (d := d) (ps := ps) (es := es))
    generalize fitN ⟨2, d, ps, es⟩ = res at *
    generalize fileB ps = fb at *
    clear CD k1
    cases q1 : (d == []) with
    | false =>
      have HG := Lib.hid (show res = false by rw [HF.out, q1]; rfl)
      go_enter Tryz.func38, Tryz.ntmps38
      go_upto_region 1 with fail
      rw [← hw1]
      clear hw1
      go_wp2
      go_ret
      exact ⟨by rw [HG.out]; rfl, hB1⟩
    | true =>
    by_cases q2 : es.length = 0
    · have q2' : ((es.length : Int) == 0) = true := by rw [beq_iff_eq]; omega
      by_cases q3 : ps.length ≤ 1024
      · have q3' : (ps.length : Int) ≤ 1024 := by omega
        have q3d : decide ((ps.length : Int) ≤ 1024) = true := decide_eq_true q3'
        have HG := Lib.hid (show res = fb by rw [HF.out, q1, decide_eq_true q3]; simp [q2])
        have C := CF (by omega)
        clear HF CF q2 q3
        go_enter Tryz.func38, Tryz.ntmps38
        go_upto_region 1 with fail
        rw [← hw1]
        clear hw1
        go_wp2_with (go_at_call 62; refine (C).mono ?_; rintro e w2 ⟨rfl, hb2⟩)
        go_ret
        exact ⟨by rw [HG.out]; rfl, below_chain hB1 hb2 hB1.size⟩
      · have q3' : ¬ (ps.length : Int) ≤ 1024 := by omega
        have q3d : decide ((ps.length : Int) ≤ 1024) = false := decide_eq_false q3'
        have HG := Lib.hid (show res = false by rw [HF.out, q1, decide_eq_false q3]; simp)
        clear HF CF q2 q3
        go_enter Tryz.func38, Tryz.ntmps38
        go_upto_region 1 with fail
        rw [← hw1]
        clear hw1
        go_wp2
        go_ret
        exact ⟨by rw [HG.out]; rfl, hB1⟩
    · have q2' : ((es.length : Int) == 0) = false := by rw [beq_eq_false_iff_ne]; omega
      have HG := Lib.hid (show res = false by rw [HF.out, q1]; simp [q2])
      clear HF CF q2
      go_enter Tryz.func38, Tryz.ntmps38
      go_upto_region 1 with fail
      rw [← hw1]
      clear hw1
      go_wp2
      go_ret
      exact ⟨by rw [HG.out]; rfl, hB1⟩
  by_cases k3 : kd = 3
  · subst k3
    have HF := Lib.hid (fitN_three (d := d) (ps := ps) (es := es))
    generalize fitN ⟨3, d, ps, es⟩ = res at *
    generalize dirB es = fb at *
    clear CF k1 k2
    cases q1 : (d == []) with
    | false =>
      have HG := Lib.hid (show res = false by rw [HF.out, q1]; rfl)
      go_enter Tryz.func38, Tryz.ntmps38
      go_upto_region 1 with fail
      rw [← hw1]
      clear hw1
      go_wp2
      go_ret
      exact ⟨by rw [HG.out]; rfl, hB1⟩
    | true =>
    by_cases q2 : ps.length = 0
    · have q2' : ((ps.length : Int) == 0) = true := by rw [beq_iff_eq]; omega
      by_cases q3 : es.length ≤ 60
      · have q3' : (es.length : Int) ≤ 60 := by omega
        have q3d : decide ((es.length : Int) ≤ 60) = true := decide_eq_true q3'
        have HG := Lib.hid (show res = fb by rw [HF.out, q1, decide_eq_true q3]; simp [q2])
        have C := CD (by omega)
        clear HF CD q2 q3
        go_enter Tryz.func38, Tryz.ntmps38
        go_upto_region 1 with fail
        rw [← hw1]
        clear hw1
        go_wp2_with (go_at_call 63; refine (C).mono ?_; rintro e w2 ⟨rfl, hb2⟩)
        go_ret
        exact ⟨by rw [HG.out]; rfl, below_chain hB1 hb2 hB1.size⟩
      · have q3' : ¬ (es.length : Int) ≤ 60 := by omega
        have q3d : decide ((es.length : Int) ≤ 60) = false := decide_eq_false q3'
        have HG := Lib.hid (show res = false by rw [HF.out, q1, decide_eq_false q3]; simp)
        clear HF CD q2 q3
        go_enter Tryz.func38, Tryz.ntmps38
        go_upto_region 1 with fail
        rw [← hw1]
        clear hw1
        go_wp2
        go_ret
        exact ⟨by rw [HG.out]; rfl, hB1⟩
    · have q2' : ((ps.length : Int) == 0) = false := by rw [beq_eq_false_iff_ne]; omega
      have HG := Lib.hid (show res = false by rw [HF.out, q1]; simp [q2])
      clear HF CD q2
      go_enter Tryz.func38, Tryz.ntmps38
      go_upto_region 1 with fail
      rw [← hw1]
      clear hw1
      go_wp2
      go_ret
      exact ⟨by rw [HG.out]; rfl, hB1⟩
  have HG := Lib.hid (fitN_else (d := d) (ps := ps) (es := es) k1 k2 k3)
  generalize fitN ⟨kd, d, ps, es⟩ = res at *
  have k1' : (kd == 1) = false := by rw [beq_eq_false_iff_ne]; exact k1
  have k2' : (kd == 2) = false := by rw [beq_eq_false_iff_ne]; exact k2
  have k3' : (kd == 3) = false := by rw [beq_eq_false_iff_ne]; exact k3
  clear CF CD k1 k2 k3
  go_enter Tryz.func38, Tryz.ntmps38
  go_upto_region 1 with fail
  rw [← hw1]
  clear hw1
  go_wp2
  go_ret
  exact ⟨by rw [HG.out]; rfl, hB1⟩
end Go.Proofs.YtaompdnnkfmjhaaGreatDoor
