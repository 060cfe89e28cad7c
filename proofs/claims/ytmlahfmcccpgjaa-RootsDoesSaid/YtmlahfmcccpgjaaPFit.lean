/- The program's Fit on trees that are kept. -/
import Derived.Test.YtmlahfmcccpgjaaPPut
namespace Go.Proofs.Ytmlahfmcccpgjaa
open Go.RowKit

set_option maxHeartbeats 2000000 in
set_option maxRecDepth 100000 in
theorem pfit18_walk (v : Value) (l : List Snp) (w : World) (hr : SnpRow w v l) (hcnt : l.length ≤ 1000000) (hlen : ∀ x ∈ l, x.1.length ≤ 1000000 ∧ x.2.length ≤ 1000000) :
    Calls Try.prog 20 #[v] w fun e w' => e = .returned (.bool (fitR l)) ∧ Below w.heap.size w w' := by
  obtain ⟨a, c, rfl, hc, hm, hx⟩ := hr
  have HX := Lib.hid hx
  have HL := Lib.hid hlen
  clear hx hlen
  go_enter Try.func20, Try.ntmps20
  go_wp2
  go_loopw [7] (fun i wr => ∃ k : Nat, k ≤ l.length ∧ i = .int .i64 k ∧ (l.take k).all eachR = true ∧ upR (l.take k) = true ∧ Below w.heap.size w wr) (fun i _ => l.length - (intOf i).toNat)
  case atStart => exact ⟨0, Nat.zero_le _, rfl, rfl, rfl, Below.refl _ _⟩
  case round =>
    obtain ⟨k, hk, rfl, ha, hu, hB⟩ := hrel
    have HA := Lib.hid ha
    have HU := Lib.hid hu
    have HB := Lib.hid hB
    clear ha hu
    by_cases h1 : k < l.length
    · have h1' : (k : Int) < (l.length : Int) := by omega
      have hx := HX.out
      rcases hx with hx | ⟨b, o, rfl, hx⟩
      · exfalso; rw [hx] at h1; simp at h1
      obtain ⟨hx1, hx2⟩ := snp_cells hx h1
      have hc1 := cell_below hB hx1
      have hc2 := cell_below hB hx2
      have HBAD := Lib.hid (fun h => fit_bad h1 h)
      have HEA := Lib.hid (fun h => each_step h1 HA.out h)
      have hll := HL.out l[k] (by simp)
      have HE := Lib.hid (show eachR l[k] = (nameB l[k].1 && l[k].2.length == 32) from rfl)
      by_cases hz : k = 0
      · subst hz
        have HU1 := Lib.hid (up_one l)
        rw [Nat.zero_mul, Nat.add_zero] at hc1 hc2
        have hz0 : ((0 : Nat) : Int) = 0 := rfl
        clear hx hx1 hx2
        generalize l[0] = y at *
        obtain ⟨p, q⟩ := y
        simp only at HE hll
        have hn1 := LaterOf.cell (cell_new wr #[S p, S q] 31 0 rfl)
        have hn2 := LaterOf.cell (cell_new wr #[S p, S q] 31 1 rfl)
        have CN := fun w => name_walk p w hll.1
        generalize nameB p = nb at *
        cases nb with
        | false =>
          have HF := Lib.hid (HBAD.out (by rw [HE.out]; rfl))
          go_wp2
          (refine wp_region_later (by kernel_rfl) (by kernel_rfl) ?_; (repeat (go_big_quiet_step ((go_at_call 45; exact LaterOf.call _ (CN _))))); refine wpQuiet_nil ?_; intro _ hw1; obtain ⟨lw, hw2⟩ := hw1; subst hw2)
          go_wp2
          go_ret
          exact ⟨by rw [HF.out]; rfl, (HB.out.alloc HB.out.size _).trans (lw.below.mono (by have := HB.out.size; simp; omega))⟩
        | true =>
          by_cases hq : q.length = 32
          · have hq' : ((q.length : Int) != 32) = false := by rw [bne_eq_false_iff_eq]; omega
            have HS := Lib.hid (HEA.out (by rw [HE.out, hq]; rfl))
            clear hq
            go_wp2
            (refine wp_region_later (by kernel_rfl) (by kernel_rfl) ?_; (repeat (go_big_quiet_step ((go_at_call 45; exact LaterOf.call _ (CN _))))); refine wpQuiet_nil ?_; intro _ hw1; obtain ⟨lw, hw2⟩ := hw1; subst hw2)
            go_wp2
            go_roundw
            case rel => exact ⟨1, by omega, by go_num, HS.out, HU1.out, (HB.out.alloc HB.out.size _).trans (lw.below.mono (by have := HB.out.size; simp; omega))⟩
            case measure => simp [intOf]; omega
          · have hq' : ((q.length : Int) != 32) = true := by rw [bne_iff_ne]; omega
            have HF := Lib.hid (HBAD.out (by rw [HE.out]; simp [hq]))
            clear hq
            go_wp2
            (refine wp_region_later (by kernel_rfl) (by kernel_rfl) ?_; (repeat (go_big_quiet_step ((go_at_call 45; exact LaterOf.call _ (CN _))))); refine wpQuiet_nil ?_; intro _ hw1; obtain ⟨lw, hw2⟩ := hw1; subst hw2)
            go_wp2
            go_ret
            exact ⟨by rw [HF.out]; rfl, (HB.out.alloc HB.out.size _).trans (lw.below.mono (by have := HB.out.size; simp; omega))⟩
      · obtain ⟨j, rfl⟩ : ∃ j, k = j + 1 := ⟨k - 1, by omega⟩
        have hj : j < l.length := by omega
        obtain ⟨hz1, hz2⟩ := snp_cells hx hj
        have hc3 := cell_below hB hz1
        have HDN := Lib.hid (fun h => fit_down h1 h)
        have HUS := Lib.hid (upR_step h1)
        have hwr : IntKind.i64.wrap (j : Int) = (j : Int) := by rw [IntKind.wrap_i64]; omega
        have hpos : (0 : Int) < ((j + 1 : Nat) : Int) := by omega
        clear hx hx1 hx2 hz1 hz2 hz
        generalize l[j + 1] = y at *
        generalize l[j] = y0 at *
        obtain ⟨p, q⟩ := y
        obtain ⟨p0, q0⟩ := y0
        simp only at HUS HDN hc3
        simp only at HE hll
        have hn1 := LaterOf.cell (cell_new wr #[S p, S q] 31 0 rfl)
        have hn2 := LaterOf.cell (cell_new wr #[S p, S q] 31 1 rfl)
        have hn3 := LaterOf.cell (cell_old hc3 (.cells #[S p, S q] 31))
        have CN := fun w => name_walk p w hll.1
        generalize nameB p = nb at *
        cases nb with
        | false =>
          have HF := Lib.hid (HBAD.out (by rw [HE.out]; rfl))
          go_wp2
          (refine wp_region_later (by kernel_rfl) (by kernel_rfl) ?_; (repeat (go_big_quiet_step ((go_at_call 45; exact LaterOf.call _ (CN _))))); refine wpQuiet_nil ?_; intro _ hw1; obtain ⟨lw, hw2⟩ := hw1; subst hw2)
          go_wp2
          go_ret
          exact ⟨by rw [HF.out]; rfl, (HB.out.alloc HB.out.size _).trans (lw.below.mono (by have := HB.out.size; simp; omega))⟩
        | true =>
          by_cases hq : q.length = 32
          · have hq' : ((q.length : Int) != 32) = false := by rw [bne_eq_false_iff_eq]; omega
            have HS := Lib.hid (HEA.out (by rw [HE.out, hq]; rfl))
            clear hq
            have hcase : (p0 < p ∧ Op.bytesLess p0 p = true) ∨ (¬ p0 < p ∧ Op.bytesLess p0 p = false) := by
              rw [bytesLess_eq]
              by_cases h : p0 < p
              · exact .inl ⟨h, by simpa using h⟩
              · exact .inr ⟨h, by simpa using h⟩
            rcases hcase with ⟨hlt, hbl⟩ | ⟨hlt, hbl⟩
            · have HU2 := Lib.hid (show upR (l.take (j + 2)) = true by rw [HUS.out, HU.out]; simp [hlt])
              clear hlt
              go_wp2
              (refine wp_region_later (by kernel_rfl) (by kernel_rfl) ?_; (repeat (go_big_quiet_step ((go_at_call 45; exact LaterOf.call _ (CN _))))); refine wpQuiet_nil ?_; intro _ hw1; obtain ⟨lw, hw2⟩ := hw1; subst hw2)
              go_wp2
              go_roundw
              case rel => exact ⟨j + 2, by omega, by go_num, HS.out, HU2.out, (HB.out.alloc HB.out.size _).trans (lw.below.mono (by have := HB.out.size; simp; omega))⟩
              case measure => simp [intOf]; omega
            · have HF := Lib.hid (HDN.out hlt)
              clear hlt
              go_wp2
              (refine wp_region_later (by kernel_rfl) (by kernel_rfl) ?_; (repeat (go_big_quiet_step ((go_at_call 45; exact LaterOf.call _ (CN _))))); refine wpQuiet_nil ?_; intro _ hw1; obtain ⟨lw, hw2⟩ := hw1; subst hw2)
              go_wp2
              go_ret
              exact ⟨by rw [HF.out]; rfl, (HB.out.alloc HB.out.size _).trans (lw.below.mono (by have := HB.out.size; simp; omega))⟩
          · have hq' : ((q.length : Int) != 32) = true := by rw [bne_iff_ne]; omega
            have HF := Lib.hid (HBAD.out (by rw [HE.out]; simp [hq]))
            clear hq
            go_wp2
            (refine wp_region_later (by kernel_rfl) (by kernel_rfl) ?_; (repeat (go_big_quiet_step ((go_at_call 45; exact LaterOf.call _ (CN _))))); refine wpQuiet_nil ?_; intro _ hw1; obtain ⟨lw, hw2⟩ := hw1; subst hw2)
            go_wp2
            go_ret
            exact ⟨by rw [HF.out]; rfl, (HB.out.alloc HB.out.size _).trans (lw.below.mono (by have := HB.out.size; simp; omega))⟩
    · have h1' : ¬ (k : Int) < (l.length : Int) := by omega
      have HF := Lib.hid (show fitR l = decide ((l.length : Int) ≤ 20) by
        have e1 := HA.out; have e2 := HU.out
        rw [List.take_of_length_le (by omega)] at e1 e2
        simp only [fitR, e1, e2]; simp; omega)
      go_wp2
      go_ret
      exact ⟨by rw [HF.out]; rfl, HB.out⟩
end Go.Proofs.Ytmlahfmcccpgjaa
