/- The program's Names of trees. -/
import Derived.Test.YtnegnjagiejncaaDoorR10h
import Derived.Test.YtnegnjagiejncaaDoorHeld
import Derived.Test.YtnegnjagiejncaaDoorDir
namespace Go.Proofs.YtnegnjagiejncaaDoor
open Go.RowKit

/-- A path's last name is what stands behind its last slash. -/
theorem lastN_eq {l : List UInt8} (hf : fitB l = true) : ∃ i : Nat, Lib.lastIndexByte ⟨l.toArray⟩ 47 + 1 = i ∧ i ≤ l.length ∧ l.drop i = lastN l := by
  unfold lastN
  rw [splitL_fit hf]
  rcases lastSlash l with ⟨h1, h2⟩ | ⟨i, hi, h1, h2, h3⟩
  · refine ⟨0, by rw [h1]; rfl, Nat.zero_le _, ?_⟩
    have h := partsL_depth l
    rw [List.count_eq_zero.2 (fun h => h2 47 h rfl)] at h
    have h4 := joinS_parts l
    generalize partsL l = ps at *
    match ps, h with
    | [q], _ => rw [List.drop_zero]; rw [show joinS [q] = q from by simp [joinS]] at h4; rw [h4]; rfl
  · refine ⟨i + 1, by rw [h1]; rfl, hi, ?_⟩
    have h4 := partsL_snoc (l.take i) (l.drop (i + 1)) h3
    rw [← h2] at h4
    rw [h4]
    simp

set_option maxHeartbeats 2000000 in
set_option maxRecDepth 100000 in
theorem pnames10_walk (v : Value) (l : List Itm) (n : List UInt8) (w : World) (hr : ItRow w v l) (hcnt : l.length ≤ 1000000) (hM : Mx w) (hpl : ∀ x ∈ l, x.1.length ≤ 1000000) (hfit : ∀ x ∈ l, fitB x.1 = true) :
    Calls Tryd.prog 28 #[v, S n] w fun e w' => ∃ v', e = .returned v' ∧ StrRow w' v' (namesT l n) ∧ Below w.heap.size w w' := by
  have HPL := Lib.hid hpl
  have HFIT := Lib.hid hfit
  obtain ⟨a, c, rfl, hc, hm, hx⟩ := hr
  have HX := Lib.hid hx
  clear hx hpl hfit
  obtain ⟨i0, hi, hz0, hz1, hz2⟩ := info_parts infoStr
  go_enter Tryd.func28, Tryd.ntmps28
  go_wp2
  go_loopw [5, 10] (fun v i wr => ∃ k : Nat, k ≤ l.length ∧ i = .int .i64 k ∧ wr.ownsRow w.heap.size 9 1 v (namesT (l.take k) n).length ((namesT (l.take k) n).map S) ∧ (namesT (l.take k) n).length ≤ k ∧ Below w.heap.size w wr) (fun _ i _ => l.length - (intOf i).toNat)
  case atStart => exact ⟨0, Nat.zero_le _, rfl, World.ownsRow_nil _ _ _ _, by simp [namesT], Below.refl _ _⟩
  case round =>
    obtain ⟨k, hk, rfl, hown, hdk, hB⟩ := hrel
    have hsz := hB.size
    by_cases h1 : k < l.length
    · have hx := HX.out
      rcases hx with hx | ⟨b, o, rfl, hx⟩
      · exfalso; rw [hx] at h1; simp at h1
      obtain ⟨hx1, hx2, hx3, hx4⟩ := it_cells hx h1
      have hc1 := cell_below hB hx1
      have hc2 := cell_below hB hx2
      have hc3 := cell_below hB hx3
      have hc4 := cell_below hB hx4
      have HS := Lib.hid (namesT_step (d := n) h1)
      have hpl1 := HPL.out l[k] (List.getElem_mem h1)
      have hf1 := HFIT.out l[k] (List.getElem_mem h1)
      clear hx hx1 hx2 hx3 hx4
      generalize l[k] = y at *
      obtain ⟨p, d, ex, dt⟩ := y
      have h1' : (k : Int) < (l.length : Int) := by omega
      generalize namesT (l.take k) n = dn at *
      simp only at HS hc1 hc2 hc3 hc4 hpl1 hf1
      obtain ⟨w1, hw1, hb1, r0⟩ : ∃ w1, w1 = wr.alloc (.cells #[S p, .bool d, .bool ex, S dt] 32) ∧ Below wr.heap.size wr w1 ∧ w1.cell? ⟨wr.heap.size, 0, none⟩ = some (S p) :=
        ⟨_, rfl, (Below.refl _ _).alloc (Nat.le_refl _) _, cell_new wr #[S p, .bool d, .bool ex, S dt] 32 0 rfl⟩
      have CD := dir_walk p w1 ((hM.below hB).below hb1) hpl1
      have CL := fun w => Tryd.strings_LastIndexByte ⟨p.toArray⟩ 47 (by show p.length < _; omega) w
      obtain ⟨i, hi1, hi2, hi3⟩ := lastN_eq hf1
      generalize lastN p = ln at *
      generalize dirL p = dp at *
      generalize Lib.lastIndexByte ⟨p.toArray⟩ 47 = li at *
      have hB1 := below_chain hB hb1 hB.size
      have hown1 := own_on hown hb1
      clear hf1 hb1
      by_cases hdn : dp = n
      · have hde : (dp == n) = true := by rw [beq_iff_eq]; exact hdn
        have HS1 := Lib.hid (show namesT (l.take (k + 1)) n = dn ++ [ln] by rw [HS.out, hde]; rfl)
        clear hdn HS
        go_upto_region 5 with fail
        rw [← hw1]
        clear hw1 hc1 hc2 hc3 hc4
        go_wp2_with fail
        refine CD.mono ?_
        rintro e w2 ⟨rfl, hb2⟩
        have hB2 := below_chain hB1 hb2 hB1.size
        replace r0 := cell_below hb2 r0
        have hown2 := own_on hown1 hb2
        have hown2lt := fun vb (h : u5.ownBlock = some vb) => (hown.lt vb h).2
        clear hown1 hb2 CD
        go_upto_region 6 with fail
        obtain ⟨w3, hw3, r3, hown3, hB3⟩ : ∃ w3 : World, w3 = { w2 with drawn := w2.drawn + 1 } ∧ w3.cell? ⟨wr.heap.size, 0, none⟩ = some (S p) ∧ w3.ownsRow w.heap.size 9 1 u5 dn.length (dn.map S) ∧ Below w.heap.size w w3 :=
          ⟨_, rfl, r0, own_on hown2 ⟨rfl, rfl, rfl, Nat.le_refl _, fun _ _ => rfl⟩, ⟨hB2.os, hB2.tape, hB2.output, hB2.size, hB2.block⟩⟩
        (refine wp_region_held (S := fun w' => w'.cell? ⟨wr.heap.size, 0, none⟩ = some (S p)) (by kernel_rfl) ?_)
        rw [← hw3]
        clear hw3 hown2 r0 hB2
        have hwr : IntKind.i64.wrap (i : Int) = (i : Int) := by rw [IntKind.wrap_i64]; omega
        have hsl : (i : Int) ≤ (p.length : Int) := by omega
        have hsl0 : ¬ ((i : Int) < 0) := by omega
        (refine wpAnyH_take (i := 0) (v := ?_) rfl (by kernel_rfl) (by kernel_rfl) (by kernel_rfl) (fun _ _ _ h => h) (Or.inl ⟨by rfl, ?_⟩) (by exact r3) ?_; rotate_left; (intro w9 hS9; skip; go_simp; try with_reducible rfl))
        (refine wpAnyH_take (i := 1) (v := ?_) rfl (by kernel_rfl) (by kernel_rfl) (by kernel_rfl) (fun _ _ _ h => h) (Or.inl ⟨by rfl, ?_⟩) (by exact r3) ?_; rotate_left; (intro w9 hS9; skip; go_simp; try with_reducible rfl))
        (refine wpAnyH_take (i := 2) (v := ?_) rfl (by kernel_rfl) (by kernel_rfl) (by kernel_rfl) (fun _ _ _ h => h) (Or.inl ⟨by rfl, ?_⟩) (by exact r3) ?_; rotate_left; (intro w9 hS9; (replace hS9 : w9.cell? ⟨wr.heap.size, 0, none⟩ = some (S p) := hS9); go_simp; try with_reducible rfl))
        (refine wpAnyH_take (i := 3) (v := ?_) rfl (by kernel_rfl) (by kernel_rfl) (by kernel_rfl) (fun _ _ _ h => h) (Or.inl ⟨by rfl, ?_⟩) (by exact r3) ?_; rotate_left; (intro w9 hS9; skip; go_simp; try with_reducible rfl))
        (refine wpAnyH_take (i := 4) (v := ?_) rfl (by kernel_rfl) (by kernel_rfl) (by kernel_rfl) (fun _ _ _ h => h) (Or.inl ⟨by rfl, ?_⟩) (by exact r3) ?_; rotate_left; (intro w9 hS9; (replace hS9 : w9.cell? ⟨wr.heap.size, 0, none⟩ = some (S p) := hS9); go_simp; try with_reducible rfl))
        refine wpAnyH_one (i := 5) (by kernel_rfl) rfl (fun K hK => ?_)
        go_simp
        refine (CL _).mono ?_
        rintro e w4 ⟨rfl, hw9⟩
        rw [hw9]
        refine hK _ _ r3 ?_
        clear hK K hw9 w4
        (refine wpAnyH_one (i := 6) (by kernel_rfl) rfl (fun K hK => ?_); go_simp; refine hK _ _ (r3) ?_; clear hK K)
        (refine wpAnyH_one (i := 7) (by kernel_rfl) rfl (fun K hK => ?_); go_simp; refine hK _ _ (r3) ?_; clear hK K)
        have hcut : Value.string (({ data := p.toArray } : ByteArray).extract i p.length) = S ln := by rw [S_extract]; exact congrArg S (by rw [cutL_full (Nat.le_refl _), hi3])
        rw [hcut]
        clear hcut
        have r4 := cell_old r3 (.cells #[S ln] 9)
        have hsz3 := hB3.size
        have HR4 := Lib.hid r4
        have HO4 := Lib.hid (hown3.alloc (.cells #[S ln] 9))
        have HB4 := Lib.hid (hB3.alloc hsz3 (.cells #[S ln] 9))
        have HNC := Lib.hid (new_cell w3 (S ln) 9)
        have HLT := Lib.hid (fun vb (h : u5.ownBlock = some vb) => (hown2lt vb h))
        clear r4 hown3
        (refine wpAnyH_one (i := 8) (by kernel_rfl) rfl (fun K hK => ?_); go_simp; refine hK _ _ (HR4.out) ?_; clear hK K)
        refine wpAnyH_one (i := 9) (by kernel_rfl) rfl (fun K hK => ?_)
        rw [if_pos (by rfl)]
        refine wp_append_own _ (.tmp 19) (.tmp 27) 49 rfl w.heap.size 9 i0 (.string ⟨#[]⟩) 1 16 Tryd.underlying49 hi hz0 hz1 hz2 rfl (by decide) u5 dn.length (dn.map S) rfl HO4.out ⟨w3.heap.size, 0, none⟩ 1 1 [S ln] rfl rfl HNC.out (by intro u hu; simp at hu; subst hu; rfl) (by unfold maxLen; omega) (by omega) (by simp; omega) ?_
        intro v' w5 hown5 hgrow _
        have hB5 : Below w.heap.size w w5 := HB4.out.grown hgrow (by simp; omega) (fun j hj => (HO4.out.lt j hj).1)
        have HO5 := Lib.hid hown5
        clear hown5
        have hr5 : w5.cell? ⟨wr.heap.size, 0, none⟩ = some (S p) := (World.cell?_of_block (hgrow.block wr.heap.size (lt_of_cell HR4.out) (fun e => by have := HLT.out _ e.symm; omega))).trans HR4.out
        refine hK _ _ hr5 ?_
        clear hK K hgrow
        (refine wpAnyH_one (i := 10) (by kernel_rfl) rfl (fun K hK => ?_); go_simp; refine hK _ _ (hr5) ?_; clear hK K)
        (refine wpAnyH_done (by kernel_rfl) ?_ _)
        go_wp2
        go_roundw
        case rel => exact ⟨k + 1, by omega, by go_num, by rw [HS1.out]; simpa using HO5.out, by rw [HS1.out]; simp; omega, hB5⟩
        case measure => simp [intOf]; omega
      · have hde : (dp == n) = false := by rw [beq_eq_false_iff_ne]; exact hdn
        have HS1 := Lib.hid (show namesT (l.take (k + 1)) n = dn by rw [HS.out, hde]; simp)
        clear hdn HS
        go_upto_region 5 with fail
        rw [← hw1]
        clear hw1 hc1 hc2 hc3 hc4
        go_wp2_with (go_at_call 53; refine (CD).mono ?_; rintro e w2 ⟨rfl, hb2⟩)
        go_roundw
        case rel => exact ⟨k + 1, by omega, by go_num, by rw [HS1.out]; exact own_on hown1 hb2, by rw [HS1.out]; omega, below_chain hB1 hb2 hB1.size⟩
        case measure => simp [intOf]; omega
    · have h1' : ¬ (k : Int) < (l.length : Int) := by omega
      rw [List.take_of_length_le (by omega)] at hown
      have HO := Lib.hid hown
      clear hown
      go_wp2
      go_ret
      exact ⟨_, rfl, StrRow.of_owns HO.out, hB⟩
end Go.Proofs.YtnegnjagiejncaaDoor
