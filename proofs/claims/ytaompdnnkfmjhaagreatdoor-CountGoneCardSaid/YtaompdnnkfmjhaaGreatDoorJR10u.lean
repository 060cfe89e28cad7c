/- The reference under of trees. The reference's Fit of trees. -/
import Derived.Test.YtaompdnnkfmjhaaGreatDoorJR10F
namespace Go.Proofs.YtaompdnnkfmjhaaGreatDoor
open Go.RowKit


set_option maxHeartbeats 1100000 in
set_option maxRecDepth 100000 in
theorem r10under_walk (v : Value) (l : List Itm) (p : List UInt8) (w : World) (hr : ItRow w v l) (hcnt : l.length ≤ 1100000) (hp : p.length ≤ 1100000) :
    Calls Tryz.prog 88 #[v, S p] w fun e w' => e = .returned (.bool (underT l p)) ∧ Below w.heap.size w w' := by
  have C := rdir_walk p w hp
  have HU := Lib.hid (show underT l p = (dirL p == [] || (match findT l (dirL p) with | some y => y.2.1 | none => false)) from rfl)
  have CF := fun w h => r10find_walk v l (dirL p) w h hcnt
  unfold findV at CF
  generalize underT l p = res at *
  generalize dirL p = d at *
  generalize findT l d = fo at *
  by_cases hd : d = []
  · subst hd
    have HR := Lib.hid (show res = true by rw [HU.out]; rfl)
    clear HU CF
    go_enter Tryz.func88, Tryz.ntmps88
    go_wp2_with (go_at_call 69; refine (C).mono ?_; rintro e w1 ⟨rfl, hb1⟩)
    go_ret
    exact ⟨by rw [HR.out]; rfl, hb1⟩
  · have hde : (d == []) = false := by rw [beq_eq_false_iff_ne]; exact hd
    clear hd
    cases fo with
    | none =>
      have HR := Lib.hid (show res = false by rw [HU.out, hde]; rfl)
      clear HU
      go_enter Tryz.func88, Tryz.ntmps88
      go_wp2_with (first | (go_at_call 69; refine (C).mono ?_; rintro e w1 ⟨rfl, hb1⟩) | (go_at_call 111; refine (CF _ (hr.below hb1)).mono ?_; rintro e w2 ⟨rfl, hb2⟩))
      go_ret
      exact ⟨by rw [HR.out]; rfl, (below_chain hb1 hb2 hb1.size).alloc (Nat.le_trans hb1.size hb2.size) _⟩
    | some y =>
      obtain ⟨yp, yd, ye, yt⟩ := y
      simp only [Option.getD_some, Option.isSome_some] at CF
      have HR := Lib.hid (show res = yd by rw [HU.out, hde]; rfl)
      clear HU
      go_enter Tryz.func88, Tryz.ntmps88
      go_wp2_with (first | (go_at_call 69; refine (C).mono ?_; rintro e w1 ⟨rfl, hb1⟩) | (go_at_call 111; refine (CF _ (hr.below hb1)).mono ?_; rintro e w2 ⟨rfl, hb2⟩))
      go_ret
      exact ⟨by rw [HR.out]; rfl, (below_chain hb1 hb2 hb1.size).alloc (Nat.le_trans hb1.size hb2.size) _⟩

theorem take_snoc_eq {α : Type} {l m : List α} {k : Nat} (h1 : k < l.length) (h2 : k < m.length) (h : l.take k = m.take k) (he : l[k] = m[k]) : l.take (k + 1) = m.take (k + 1) := by
  rw [List.take_succ_eq_append_getElem h1, List.take_succ_eq_append_getElem h2, h, he]
theorem at_ne {α : Type} {l m : List α} {k : Nat} (h1 : k < l.length) (h2 : k < m.length) (h : l[k] ≠ m[k]) : l ≠ m := by
  intro e; subst e; exact h rfl
/-- Two items that differ, in the walk's words. -/
theorem itm_ne {p1 p2 t1 t2 : List UInt8} {d1 d2 e1 e2 : Bool} (h : ((p1, d1, e1, t1) : Itm) ≠ (p2, d2, e2, t2)) :
    ((p1 == p2) = false) ∨ ((p1 == p2) = true ∧ (d1 == d2) = false) ∨ ((p1 == p2) = true ∧ (d1 == d2) = true ∧ (e1 == e2) = false) ∨ ((p1 == p2) = true ∧ (d1 == d2) = true ∧ (e1 == e2) = true ∧ (t1 == t2) = false) := by
  by_cases h1 : p1 = p2
  · by_cases h2 : d1 = d2
    · by_cases h3 : e1 = e2
      · by_cases h4 : t1 = t2
        · exact absurd (by rw [h1, h2, h3, h4]) h
        · exact .inr (.inr (.inr ⟨by simpa using h1, by simpa using h2, by simpa using h3, by simpa using h4⟩))
      · exact .inr (.inr (.inl ⟨by simpa using h1, by simpa using h2, by simpa using h3⟩))
    · exact .inr (.inl ⟨by simpa using h1, by simpa using h2⟩)
  · exact .inl (by simpa using h1)

end Go.Proofs.YtaompdnnkfmjhaaGreatDoor

namespace Go.Proofs.YtaompdnnkfmjhaaGreatDoor
open Go.RowKit

noncomputable def fitTB (l : List Itm) : Bool := @decide (FitT l) (Classical.propDecidable _)
theorem fitTB_iff {l : List Itm} : fitTB l = true ↔ FitT l := by unfold fitTB; exact @decide_eq_true_iff _ (Classical.propDecidable _)
theorem fitTB_no {l : List Itm} (h : ¬ FitT l) : fitTB l = false := by
  cases h2 : fitTB l with
  | false => rfl
  | true => exact absurd (fitTB_iff.1 h2) h
theorem upT_step {l : List Itm} {k : Nat} (h1 : k < l.length) (hu : upT ((l.take k).map (·.1))) (h : ∀ h0 : 0 < k, ltP (l[k - 1]'(by omega)).1 l[k].1 = true) : upT ((l.take (k + 1)).map (·.1)) := by
  unfold upT at *
  rw [List.pairwise_map] at *
  rw [List.take_succ_eq_append_getElem h1, List.pairwise_append]
  refine ⟨hu, by simp, ?_⟩
  intro a ha b hb
  rw [List.mem_singleton] at hb
  subst hb
  obtain ⟨j, hj, rfl⟩ := List.mem_iff_getElem.1 ha
  rw [List.length_take] at hj
  rw [List.getElem_take]
  have h2 := h (by omega)
  by_cases e : j = k - 1
  · subst e; exact h2
  · refine ltP_trans ?_ h2
    have h3 := List.pairwise_iff_getElem.1 hu j (k - 1) (by rw [List.length_take]; omega) (by rw [List.length_take]; omega) (by omega)
    simpa [List.getElem_take] using h3
theorem upT_not {l : List Itm} {k : Nat} (h1 : k < l.length) (h0 : 0 < k) (h : ltP (l[k - 1]'(by omega)).1 l[k].1 = false) : ¬ FitT l := by
  intro hf
  have hu := hf.up
  unfold upT at hu
  rw [List.pairwise_map] at hu
  have := List.pairwise_iff_getElem.1 hu (k - 1) k (by omega) h1 (by omega)
  rw [h] at this; cases this
theorem okT_not {l : List Itm} {k : Nat} (h1 : k < l.length) (h : okT l l[k] = false) : ¬ FitT l := by
  intro hf
  have := hf.ok l[k] (List.getElem_mem h1)
  rw [h] at this; cases this
theorem all_snoc {α : Type} {P : α → Prop} {l : List α} {k : Nat} (h1 : k < l.length) (h : ∀ x ∈ l.take k, P x) (hx : P l[k]) : ∀ x ∈ l.take (k + 1), P x := by
  intro x hm
  rw [List.take_succ_eq_append_getElem h1] at hm
  rcases List.mem_append.1 hm with h2 | h2
  · exact h x h2
  · simp at h2; subst h2; exact hx

set_option maxHeartbeats 8000000 in
set_option maxRecDepth 100000 in
theorem r10fit_walk (v : Value) (l : List Itm) (w : World) (hr : ItRow w v l) (hcnt : l.length ≤ 1100000) (hs : sizeT l ≤ 1000000000000) (hpl : ∀ x ∈ l, x.1.length ≤ 1100000) :
    Calls Tryz.prog 67 #[v] w fun e w' => e = .returned (.bool (fitTB l)) ∧ Below w.heap.size w w' := by
  have HR0 := Lib.hid hr
  have HN := Lib.hid (fun h : ¬ FitT l => fitTB_no h)
  have HY := Lib.hid (fun h : FitT l => fitTB_iff.2 h)
  generalize fitTB l = res at *
  have HPL := Lib.hid hpl
  obtain ⟨a, c, rfl, hc, hm, hx⟩ := hr
  have HX := Lib.hid hx
  clear hx hpl
  by_cases g : 60 < l.length
  · have g' : (60 : Int) < (l.length : Int) := by omega
    have HF := Lib.hid (HN.out (fun h => by have := h.len; omega))
    clear g
    go_enter Tryz.func67, Tryz.ntmps67
    go_wp2
    go_ret
    exact ⟨by rw [HF.out]; rfl, Below.refl _ _⟩
  have g' : ¬ (60 : Int) < (l.length : Int) := by omega
  have HG := Lib.hid g
  clear g
  go_enter Tryz.func67, Tryz.ntmps67
  go_wp2
  go_loopw [3, 4] (fun n i wr => ∃ k : Nat, k ≤ l.length ∧ i = .int .i64 k ∧ n = .int .i64 (sizeT (l.take k) : Nat) ∧ (∀ x ∈ l.take k, okT l x = true) ∧ upT ((l.take k).map (·.1)) ∧ Below w.heap.size w wr) (fun _ i _ => l.length - (intOf i).toNat)
  case atStart => exact ⟨0, Nat.zero_le _, rfl, rfl, by simp, by simp [upT], Below.refl _ _⟩
  case round =>
    obtain ⟨k, hk, rfl, rfl, ha, hu, hB⟩ := hrel
    have HA := Lib.hid ha
    have HU := Lib.hid hu
    have HB := Lib.hid hB
    clear ha hu
    by_cases h1 : k < l.length
    · have h1' : (k : Int) < (l.length : Int) := by omega
      have hx := HX.out
      rcases hx with hx | ⟨b, o, rfl, hx⟩
      · exfalso; rw [hx] at h1; simp at h1
      obtain ⟨hx1, hx2, hx3, hx4⟩ := it_cells hx h1
      have hc1 := cell_below hB hx1
      have hc2 := cell_below hB hx2
      have hc3 := cell_below hB hx3
      have hc4 := cell_below hB hx4
      have HOK := Lib.hid (fun h => all_snoc (P := fun x => okT l x = true) h1 HA.out h)
      have HNO := Lib.hid (fun h => HN.out (okT_not h1 h))
      have HDEF := Lib.hid (show okT l l[k] = (fitB l[k].1 && (!oddT l[k] && (decide (l[k].2.2.2.length ≤ 32768) && underT l l[k].1))) from rfl)
      have HODD := Lib.hid (show oddT l[k] = (l[k].2.1 && (!(l[k].2.2.2 == []) || l[k].2.2.1)) from rfl)
      have HUS := Lib.hid (fun h => upT_step h1 HU.out h)
      have HDN := Lib.hid (fun h0 h => HN.out (upT_not h1 h0 h))
      have hz := sizeT_step h1
      have hz2 := sizeT_take l (k + 1)
      have hpl1 := HPL.out l[k] (List.getElem_mem h1)
      have hprev : k = 0 ∨ (0 < k ∧ ∃ p0 : List UInt8, p0 = (l[k - 1]'(by omega)).1 ∧ p0.length ≤ 1100000 ∧ w.cell? ⟨b, o + (k - 1) * 4, none⟩ = some (S p0)) := by
        rcases Nat.eq_zero_or_pos k with h0 | h0
        · exact .inl h0
        · exact .inr ⟨h0, _, rfl, HPL.out _ (List.getElem_mem _), (it_cells hx (j := k - 1) (by omega)).1⟩
      obtain ⟨w1, hw1, hB1, hr0⟩ : ∃ w1, w1 = wr.alloc (.cells #[S l[k].1, .bool l[k].2.1, .bool l[k].2.2.1, S l[k].2.2.2] 65) ∧ Below wr.heap.size wr w1 ∧ w1.heap[wr.heap.size]? = some (.cells #[S l[k].1, .bool l[k].2.1, .bool l[k].2.2.1, S l[k].2.2.2] 65 (0, 0)) :=
        ⟨_, rfl, (Below.refl _ _).alloc (Nat.le_refl _) _, heap_alloc_new _ _⟩
      have HB1 := Lib.hid (below_chain HB.out hB1 HB.out.size)
      have CU := fun (p : LaterOf w1) => r10under_walk _ l l[k].1 p.world ((HR0.out.below HB1.out).below p.below) hcnt hpl1
      have CF := fun (p : LaterOf w1) => rfit_walk l[k].1 p.world hpl1
      obtain ⟨⟨r0, r1, r2, r3⟩, -, -⟩ := box4 hr0
      replace r0 := LaterOf.cell r0
      replace r1 := LaterOf.cell r1
      replace r2 := LaterOf.cell r2
      replace r3 := LaterOf.cell r3
      have hord : (k = 0 ∧ ¬ (0 : Int) < (k : Int)) ∨ (∃ p0 : List UInt8, ∃ h0 : 0 < k, p0 = (l[k - 1]'(by omega)).1 ∧ p0.length ≤ 1100000 ∧ (∀ q : LaterOf w1, q.world.cell? ⟨b, o + (k - 1) * 4, none⟩ = some (S p0))) := by
        rcases hprev with h0 | ⟨h0, p0, hp0, hp1, hp2⟩
        · exact .inl ⟨h0, by omega⟩
        · exact .inr ⟨p0, h0, hp0, hp1, LaterOf.cell (cell_below HB1.out hp2)⟩
      clear hx hx1 hx2 hx3 hx4 hB hr0 hprev hB1
      have HZ := Lib.hid hz
      have hz3 : sizeT (l.take k) + l[k].2.2.2.length ≤ 1000000000000 := by omega
      clear hz hz2
      generalize l[k] = y at *
      obtain ⟨nm, dd, ex, dt⟩ := y
      simp only at hc1 hc2 hc3 hc4 r0 r1 r2 r3 CU CF HUS HDN HDEF HODD HZ hz3 hpl1
      generalize underT l nm = ub at *
      generalize fitB nm = fb at *
      have hodd : (dd = true ∧ (dt == []) = false) ∨ (dd = true ∧ (dt == []) = true ∧ ex = true) ∨ dd = false ∨ (dd = true ∧ (dt == []) = true ∧ ex = false) := by
        cases dd <;> cases ex <;> cases dt == [] <;> simp
      cases fb with
      | false =>
        have HF := Lib.hid (HNO.out (by rw [HDEF.out]; rfl))
        clear hord hodd
        go_wp2
        rw [← hw1]
        (refine wp_region_later (by kernel_rfl) (by kernel_rfl) ?_; (repeat (go_big_quiet_step (first | (go_at_call 86; exact LaterOf.call _ (CF _))))); refine wpQuiet_nil ?_; intro _ hw1; obtain ⟨lw, hw2⟩ := hw1; subst hw2)
        go_wp2
        go_ret
        exact ⟨by rw [HF.out]; rfl, below_chain HB1.out lw.below HB1.out.size⟩
      | true =>
        rcases hord with ⟨hk0, hk1⟩ | ⟨p0, h0, hp0, hpl0, hpc⟩
        · have HU2 := Lib.hid (HUS.out (fun h0 => by omega))
          have hkd : decide (0 < k) = false := decide_eq_false (by omega)
          clear hk0
          rcases hodd with ⟨rfl, q1⟩ | ⟨rfl, q1, rfl⟩ | rfl | ⟨rfl, q1, rfl⟩
          · have HF := Lib.hid (HNO.out (by rw [HDEF.out, HODD.out, q1]; simp))
            go_wp2
            rw [← hw1]
            (refine wp_region_later (by kernel_rfl) (by kernel_rfl) ?_; (repeat (go_big_quiet_step (first | (go_at_call 86; exact LaterOf.call _ (CF _))))); refine wpQuiet_nil ?_; intro _ hw1; obtain ⟨lw, hw2⟩ := hw1; subst hw2)
            go_wp2
            go_ret
            exact ⟨by rw [HF.out]; rfl, below_chain HB1.out lw.below HB1.out.size⟩
          · have HF := Lib.hid (HNO.out (by rw [HDEF.out, HODD.out, q1]; simp))
            go_wp2
            rw [← hw1]
            (refine wp_region_later (by kernel_rfl) (by kernel_rfl) ?_; (repeat (go_big_quiet_step (first | (go_at_call 86; exact LaterOf.call _ (CF _))))); refine wpQuiet_nil ?_; intro _ hw1; obtain ⟨lw, hw2⟩ := hw1; subst hw2)
            go_wp2
            go_ret
            exact ⟨by rw [HF.out]; rfl, below_chain HB1.out lw.below HB1.out.size⟩
          · have HE := Lib.hid (show okT l (nm, _, _, dt) = (true && (true && (decide (dt.length ≤ 32768) && ub))) by rw [HDEF.out, HODD.out]; rfl)
            by_cases q3 : dt.length ≤ 32768
            · have q3' : ¬ (32768 : Int) < (dt.length : Int) := by omega
              have q3d : decide ((32768 : Int) < (dt.length : Int)) = false := decide_eq_false q3'
              cases ub with
              | false =>
                have HF := Lib.hid (HNO.out (by rw [HE.out]; simp))
                go_wp2
                rw [← hw1]
                (refine wp_region_later (by kernel_rfl) (by kernel_rfl) ?_; (repeat (go_big_quiet_step (first | (go_at_call 86; exact LaterOf.call _ (CF _)) | (go_at_call 88; exact LaterOf.call _ (CU _))))); refine wpQuiet_nil ?_; intro _ hw1; obtain ⟨lw, hw2⟩ := hw1; subst hw2)
                go_wp2
                go_ret
                exact ⟨by rw [HF.out]; rfl, below_chain HB1.out lw.below HB1.out.size⟩
              | true =>
                have HA2 := Lib.hid (HOK.out (by rw [HE.out]; simp [q3]))
                clear q3
                go_wp2
                rw [← hw1]
                (refine wp_region_later (by kernel_rfl) (by kernel_rfl) ?_; (repeat (go_big_quiet_step (first | (go_at_call 86; exact LaterOf.call _ (CF _)) | (go_at_call 88; exact LaterOf.call _ (CU _))))); refine wpQuiet_nil ?_; intro _ hw1; obtain ⟨lw, hw2⟩ := hw1; subst hw2)
                go_wp2
                go_roundw
                case rel => exact ⟨k + 1, by omega, by go_num, by rw [HZ.out]; go_num, HA2.out, HU2.out, below_chain HB1.out lw.below HB1.out.size⟩
                case measure => simp [intOf]; omega
            · have q3' : (32768 : Int) < (dt.length : Int) := by omega
              have q3d : decide ((32768 : Int) < (dt.length : Int)) = true := decide_eq_true q3'
              have HF := Lib.hid (HNO.out (by rw [HE.out]; simp [q3]))
              clear q3
              go_wp2
              rw [← hw1]
              (refine wp_region_later (by kernel_rfl) (by kernel_rfl) ?_; (repeat (go_big_quiet_step (first | (go_at_call 86; exact LaterOf.call _ (CF _))))); refine wpQuiet_nil ?_; intro _ hw1; obtain ⟨lw, hw2⟩ := hw1; subst hw2)
              go_wp2
              go_ret
              exact ⟨by rw [HF.out]; rfl, below_chain HB1.out lw.below HB1.out.size⟩
          · have HE := Lib.hid (show okT l (nm, _, _, dt) = (true && (true && (decide (dt.length ≤ 32768) && ub))) by rw [HDEF.out, HODD.out, q1]; rfl)
            by_cases q3 : dt.length ≤ 32768
            · have q3' : ¬ (32768 : Int) < (dt.length : Int) := by omega
              have q3d : decide ((32768 : Int) < (dt.length : Int)) = false := decide_eq_false q3'
              cases ub with
              | false =>
                have HF := Lib.hid (HNO.out (by rw [HE.out]; simp))
                go_wp2
                rw [← hw1]
                (refine wp_region_later (by kernel_rfl) (by kernel_rfl) ?_; (repeat (go_big_quiet_step (first | (go_at_call 86; exact LaterOf.call _ (CF _)) | (go_at_call 88; exact LaterOf.call _ (CU _))))); refine wpQuiet_nil ?_; intro _ hw1; obtain ⟨lw, hw2⟩ := hw1; subst hw2)
                go_wp2
                go_ret
                exact ⟨by rw [HF.out]; rfl, below_chain HB1.out lw.below HB1.out.size⟩
              | true =>
                have HA2 := Lib.hid (HOK.out (by rw [HE.out]; simp [q3]))
                clear q3
                go_wp2
                rw [← hw1]
                (refine wp_region_later (by kernel_rfl) (by kernel_rfl) ?_; (repeat (go_big_quiet_step (first | (go_at_call 86; exact LaterOf.call _ (CF _)) | (go_at_call 88; exact LaterOf.call _ (CU _))))); refine wpQuiet_nil ?_; intro _ hw1; obtain ⟨lw, hw2⟩ := hw1; subst hw2)
                go_wp2
                go_roundw
                case rel => exact ⟨k + 1, by omega, by go_num, by rw [HZ.out]; go_num, HA2.out, HU2.out, below_chain HB1.out lw.below HB1.out.size⟩
                case measure => simp [intOf]; omega
            · have q3' : (32768 : Int) < (dt.length : Int) := by omega
              have q3d : decide ((32768 : Int) < (dt.length : Int)) = true := decide_eq_true q3'
              have HF := Lib.hid (HNO.out (by rw [HE.out]; simp [q3]))
              clear q3
              go_wp2
              rw [← hw1]
              (refine wp_region_later (by kernel_rfl) (by kernel_rfl) ?_; (repeat (go_big_quiet_step (first | (go_at_call 86; exact LaterOf.call _ (CF _))))); refine wpQuiet_nil ?_; intro _ hw1; obtain ⟨lw, hw2⟩ := hw1; subst hw2)
              go_wp2
              go_ret
              exact ⟨by rw [HF.out]; rfl, below_chain HB1.out lw.below HB1.out.size⟩
        · have hk1 : (0 : Int) < (k : Int) := by omega
          have hkd : decide (0 < k) = true := decide_eq_true h0
          have CO := fun (p : LaterOf w1) => rorder_walk p0 nm p.world hpl0 hpl1
          rw [show cmpParts (partsL p0) (partsL nm) = orderL p0 nm from rfl] at CO
          have h3 := ltP_three p0 nm
          have hwr : IntKind.i64.wrap ((k : Int) - 1) = ((k - 1 : Nat) : Int) := by rw [IntKind.wrap_i64]; omega
          have hkm : k - 1 < l.length := by omega
          have hkm' : ((k - 1 : Nat) : Int) < (l.length : Int) := by omega
          have HUS := Lib.hid (fun h : ltP p0 nm = true => HUS.out (fun _ => by rw [← hp0]; exact h))
          have HDN := Lib.hid (fun h : ltP p0 nm = false => HDN.out h0 (by rw [← hp0]; exact h))
          clear hp0
          rcases h3 with ⟨hc, hlt, -, -⟩ | ⟨hc, hlt, -, -⟩ | ⟨hc, hlt, -, -⟩
          · rw [hc] at CO
            have HU2 := Lib.hid (HUS.out hlt)
            clear hc hlt
            rcases hodd with ⟨rfl, q1⟩ | ⟨rfl, q1, rfl⟩ | rfl | ⟨rfl, q1, rfl⟩
            · have HF := Lib.hid (HNO.out (by rw [HDEF.out, HODD.out, q1]; simp))
              go_wp2
              rw [← hw1]
              (refine wp_region_later (by kernel_rfl) (by kernel_rfl) ?_; (repeat (go_big_quiet_step (first | (go_at_call 86; exact LaterOf.call _ (CF _)) | (go_at_call 87; exact LaterOf.call _ (CO _))))); refine wpQuiet_nil ?_; intro _ hw1; obtain ⟨lw, hw2⟩ := hw1; subst hw2)
              go_wp2
              go_ret
              exact ⟨by rw [HF.out]; rfl, below_chain HB1.out lw.below HB1.out.size⟩
            · have HF := Lib.hid (HNO.out (by rw [HDEF.out, HODD.out, q1]; simp))
              go_wp2
              rw [← hw1]
              (refine wp_region_later (by kernel_rfl) (by kernel_rfl) ?_; (repeat (go_big_quiet_step (first | (go_at_call 86; exact LaterOf.call _ (CF _)) | (go_at_call 87; exact LaterOf.call _ (CO _))))); refine wpQuiet_nil ?_; intro _ hw1; obtain ⟨lw, hw2⟩ := hw1; subst hw2)
              go_wp2
              go_ret
              exact ⟨by rw [HF.out]; rfl, below_chain HB1.out lw.below HB1.out.size⟩
            · have HE := Lib.hid (show okT l (nm, _, _, dt) = (true && (true && (decide (dt.length ≤ 32768) && ub))) by rw [HDEF.out, HODD.out]; rfl)
              by_cases q3 : dt.length ≤ 32768
              · have q3' : ¬ (32768 : Int) < (dt.length : Int) := by omega
                have q3d : decide ((32768 : Int) < (dt.length : Int)) = false := decide_eq_false q3'
                cases ub with
                | false =>
                  have HF := Lib.hid (HNO.out (by rw [HE.out]; simp))
                  go_wp2
                  rw [← hw1]
                  (refine wp_region_later (by kernel_rfl) (by kernel_rfl) ?_; (repeat (go_big_quiet_step (first | (go_at_call 86; exact LaterOf.call _ (CF _)) | (go_at_call 87; exact LaterOf.call _ (CO _)) | (go_at_call 88; exact LaterOf.call _ (CU _))))); refine wpQuiet_nil ?_; intro _ hw1; obtain ⟨lw, hw2⟩ := hw1; subst hw2)
                  go_wp2
                  go_ret
                  exact ⟨by rw [HF.out]; rfl, below_chain HB1.out lw.below HB1.out.size⟩
                | true =>
                  have HA2 := Lib.hid (HOK.out (by rw [HE.out]; simp [q3]))
                  clear q3
                  go_wp2
                  rw [← hw1]
                  (refine wp_region_later (by kernel_rfl) (by kernel_rfl) ?_; (repeat (go_big_quiet_step (first | (go_at_call 86; exact LaterOf.call _ (CF _)) | (go_at_call 87; exact LaterOf.call _ (CO _)) | (go_at_call 88; exact LaterOf.call _ (CU _))))); refine wpQuiet_nil ?_; intro _ hw1; obtain ⟨lw, hw2⟩ := hw1; subst hw2)
                  go_wp2
                  go_roundw
                  case rel => exact ⟨k + 1, by omega, by go_num, by rw [HZ.out]; go_num, HA2.out, HU2.out, below_chain HB1.out lw.below HB1.out.size⟩
                  case measure => simp [intOf]; omega
              · have q3' : (32768 : Int) < (dt.length : Int) := by omega
                have q3d : decide ((32768 : Int) < (dt.length : Int)) = true := decide_eq_true q3'
                have HF := Lib.hid (HNO.out (by rw [HE.out]; simp [q3]))
                clear q3
                go_wp2
                rw [← hw1]
                (refine wp_region_later (by kernel_rfl) (by kernel_rfl) ?_; (repeat (go_big_quiet_step (first | (go_at_call 86; exact LaterOf.call _ (CF _)) | (go_at_call 87; exact LaterOf.call _ (CO _))))); refine wpQuiet_nil ?_; intro _ hw1; obtain ⟨lw, hw2⟩ := hw1; subst hw2)
                go_wp2
                go_ret
                exact ⟨by rw [HF.out]; rfl, below_chain HB1.out lw.below HB1.out.size⟩
            · have HE := Lib.hid (show okT l (nm, _, _, dt) = (true && (true && (decide (dt.length ≤ 32768) && ub))) by rw [HDEF.out, HODD.out, q1]; rfl)
              by_cases q3 : dt.length ≤ 32768
              · have q3' : ¬ (32768 : Int) < (dt.length : Int) := by omega
                have q3d : decide ((32768 : Int) < (dt.length : Int)) = false := decide_eq_false q3'
                cases ub with
                | false =>
                  have HF := Lib.hid (HNO.out (by rw [HE.out]; simp))
                  go_wp2
                  rw [← hw1]
                  (refine wp_region_later (by kernel_rfl) (by kernel_rfl) ?_; (repeat (go_big_quiet_step (first | (go_at_call 86; exact LaterOf.call _ (CF _)) | (go_at_call 87; exact LaterOf.call _ (CO _)) | (go_at_call 88; exact LaterOf.call _ (CU _))))); refine wpQuiet_nil ?_; intro _ hw1; obtain ⟨lw, hw2⟩ := hw1; subst hw2)
                  go_wp2
                  go_ret
                  exact ⟨by rw [HF.out]; rfl, below_chain HB1.out lw.below HB1.out.size⟩
                | true =>
                  have HA2 := Lib.hid (HOK.out (by rw [HE.out]; simp [q3]))
                  clear q3
                  go_wp2
                  rw [← hw1]
                  (refine wp_region_later (by kernel_rfl) (by kernel_rfl) ?_; (repeat (go_big_quiet_step (first | (go_at_call 86; exact LaterOf.call _ (CF _)) | (go_at_call 87; exact LaterOf.call _ (CO _)) | (go_at_call 88; exact LaterOf.call _ (CU _))))); refine wpQuiet_nil ?_; intro _ hw1; obtain ⟨lw, hw2⟩ := hw1; subst hw2)
                  go_wp2
                  go_roundw
                  case rel => exact ⟨k + 1, by omega, by go_num, by rw [HZ.out]; go_num, HA2.out, HU2.out, below_chain HB1.out lw.below HB1.out.size⟩
                  case measure => simp [intOf]; omega
              · have q3' : (32768 : Int) < (dt.length : Int) := by omega
                have q3d : decide ((32768 : Int) < (dt.length : Int)) = true := decide_eq_true q3'
                have HF := Lib.hid (HNO.out (by rw [HE.out]; simp [q3]))
                clear q3
                go_wp2
                rw [← hw1]
                (refine wp_region_later (by kernel_rfl) (by kernel_rfl) ?_; (repeat (go_big_quiet_step (first | (go_at_call 86; exact LaterOf.call _ (CF _)) | (go_at_call 87; exact LaterOf.call _ (CO _))))); refine wpQuiet_nil ?_; intro _ hw1; obtain ⟨lw, hw2⟩ := hw1; subst hw2)
                go_wp2
                go_ret
                exact ⟨by rw [HF.out]; rfl, below_chain HB1.out lw.below HB1.out.size⟩
          all_goals
            rw [hc] at CO
            have HF := Lib.hid (HDN.out hlt)
            clear hc hlt hodd
            go_wp2
            rw [← hw1]
            (refine wp_region_later (by kernel_rfl) (by kernel_rfl) ?_; (repeat (go_big_quiet_step (first | (go_at_call 86; exact LaterOf.call _ (CF _)) | (go_at_call 87; exact LaterOf.call _ (CO _))))); refine wpQuiet_nil ?_; intro _ hw1; obtain ⟨lw, hw2⟩ := hw1; subst hw2)
            go_wp2
            go_ret
            exact ⟨by rw [HF.out]; rfl, below_chain HB1.out lw.below HB1.out.size⟩
    · have h1' : ¬ (k : Int) < (l.length : Int) := by omega
      have HK := Lib.hid (show l.take k = l from List.take_of_length_le (by omega))
      have hs2 : sizeT (l.take k) = sizeT l := by rw [HK.out]
      rw [hs2]
      by_cases h65 : sizeT l ≤ 65536
      · have h65' : (sizeT l : Int) ≤ 65536 := by omega
        have HF := Lib.hid (HY.out ⟨by have := HG.out; omega, by rw [← HK.out]; exact HU.out, by have := HA.out; rwa [HK.out] at this, h65⟩)
        go_wp2
        go_ret
        exact ⟨by rw [HF.out]; rfl, HB.out⟩
      · have h65' : ¬ (sizeT l : Int) ≤ 65536 := by omega
        have HF := Lib.hid (HN.out (fun h => h65 h.size))
        go_wp2
        go_ret
        exact ⟨by rw [HF.out]; rfl, HB.out⟩
end Go.Proofs.YtaompdnnkfmjhaaGreatDoor
