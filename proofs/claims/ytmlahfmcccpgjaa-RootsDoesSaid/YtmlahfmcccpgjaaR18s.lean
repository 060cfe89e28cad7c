/- The reference's Same and Record on trees that are kept. -/
import Derived.Test.YtmlahfmcccpgjaaR18p
import Derived.Test.YtmlahfmcccpgjaaR01
import Derived.Deep.Cut
import Derived.Deep.RegionWith
namespace Go.Proofs.Ytmlahfmcccpgjaa
open Go.RowKit

theorem snps_ne {xs ys : List Snp} {k : Nat} (h1 : k < xs.length) (h2 : k < ys.length) (h : xs[k] ≠ ys[k]) : (xs == ys) = false := by
  rw [beq_eq_false_iff_ne]
  rintro rfl
  exact h rfl
theorem snps_eq {xs ys : List Snp} (hl : xs.length = ys.length) (h : xs.take xs.length = ys.take xs.length) : (xs == ys) = true := by
  rw [beq_iff_eq]
  rw [List.take_of_length_le (Nat.le_refl _), List.take_of_length_le (by omega)] at h
  exact h

set_option maxHeartbeats 1000000 in
set_option maxRecDepth 100000 in
theorem r18same_walk (v v2 : Value) (xs ys : List Snp) (w : World) (hx : SnpRow w v xs) (hy : SnpRow w v2 ys) (hcl : xs.length ≤ 1000000) :
    Calls Try.prog 12 #[v, v2] w fun e w' => e = .returned (.bool (xs == ys)) ∧ Below w.heap.size w w' := by
  obtain ⟨a, c, rfl, hc, hm1, hx⟩ := hx
  obtain ⟨a2, c2, rfl, hc2, hm2, hy⟩ := hy
  have HX := Lib.hid hx
  have HY := Lib.hid hy
  clear hx hy
  by_cases hl : xs.length = ys.length
  · have HL := Lib.hid hl
    have hne : ((xs.length : Int) != (ys.length : Int)) = false := by rw [bne_eq_false_iff_eq]; omega
    have hle1 : xs.length ≤ ys.length := by omega
    clear hl
    go_enter Try.func12, Try.ntmps12
    go_wp2
    go_loopw [5] (fun i wr => ∃ k : Nat, k ≤ xs.length ∧ i = .int .i64 k ∧ xs.take k = ys.take k ∧ Below w.heap.size w wr) (fun i _ => xs.length - (intOf i).toNat)
    case atStart => exact ⟨0, Nat.zero_le _, rfl, rfl, Below.refl _ _⟩
    case round =>
      obtain ⟨k, hk, rfl, ht, hB⟩ := hrel
      have HT := Lib.hid ht
      have HB := Lib.hid hB
      clear ht
      by_cases h1 : k < xs.length
      · have h2 : k < ys.length := by omega
        have hx := HX.out
        rcases hx with hx | ⟨b, o, rfl, hx⟩
        · exfalso; rw [hx] at h1; simp at h1
        obtain ⟨hx1, hx2⟩ := snp_cells hx h1
        have hcx1 := cell_below hB hx1
        have hcx2 := cell_below hB hx2
        have hy := HY.out
        rcases hy with hy | ⟨b2, o2, rfl, hy⟩
        · exfalso; rw [hy] at h2; simp at h2
        obtain ⟨hy1, hy2⟩ := snp_cells hy h2
        have hcy1 := cell_below hB hy1
        have hcy2 := cell_below hB hy2
        have HNE := Lib.hid (fun h => snps_ne h1 h2 h)
        have HST := Lib.hid (fun h : xs[k] = ys[k] => (show xs.take (k + 1) = ys.take (k + 1) by rw [List.take_succ_eq_append_getElem h1, List.take_succ_eq_append_getElem h2, HT.out, h]))
        clear hx hy hB hx1 hx2 hy1 hy2
        generalize xs[k] = p at *
        generalize ys[k] = q at *
        obtain ⟨p1, p2⟩ := p
        obtain ⟨q1, q2⟩ := q
        have h1' : (k : Int) < (xs.length : Int) := by omega
        have h2' : (k : Int) < (ys.length : Int) := by omega
        by_cases hpq : p1 = q1 ∧ p2 = q2
        · obtain ⟨rfl, rfl⟩ := hpq
          have HS := Lib.hid (HST.out rfl)
          go_wp2
          go_quiet (fail)
          go_wp2
          go_roundw
          case rel => exact ⟨k + 1, by omega, by go_num, HS.out, belowN HB.out _⟩
          case measure => simp [intOf]; omega
        · have HS := Lib.hid (HNE.out (by intro h; cases h; exact hpq ⟨rfl, rfl⟩))
          have hcase : (p1 == q1) = false ∨ ((p1 == q1) = true ∧ (p2 == q2) = false) := by
            by_cases h1 : p1 = q1
            · exact .inr ⟨by rw [beq_iff_eq]; exact h1, by rw [beq_eq_false_iff_ne]; exact fun h => hpq ⟨h1, h⟩⟩
            · exact .inl (by rw [beq_eq_false_iff_ne]; exact h1)
          clear hpq
          rcases hcase with h3 | ⟨h3, h4⟩
          all_goals
            go_wp2
            go_quiet (fail)
            go_wp2
            go_ret
            exact ⟨ret_bool HS.out.symm, belowN HB.out _⟩
      · have h1' : ¬ (k : Int) < (xs.length : Int) := by omega
        have HK := Lib.hid (show k = xs.length by omega)
        go_wp2
        go_ret
        exact ⟨ret_bool (snps_eq HL.out (by rw [← HK.out]; exact HT.out)).symm, HB.out⟩
  · have hne : ((xs.length : Int) != (ys.length : Int)) = true := by rw [bne_iff_ne]; omega
    have HE := Lib.hid (show (xs == ys) = false by rw [beq_eq_false_iff_ne]; rintro rfl; exact hl rfl)
    clear hl
    go_enter Try.func12, Try.ntmps12
    go_wp2
    go_ret
    exact ⟨ret_bool HE.out.symm, Below.refl _ _⟩

theorem S_cons (c : UInt8) (b : List UInt8) : Value.string (({ data := #[c] } : ByteArray) ++ ({ data := b.toArray } : ByteArray)) = S (c :: b) := by
  congr 1
theorem S_cons2 (c : UInt8) (b d : List UInt8) : Value.string (({ data := #[c] } : ByteArray) ++ ({ data := b.toArray } : ByteArray) ++ ({ data := d.toArray } : ByteArray)) = S (c :: (b ++ d)) := by
  congr 1
theorem putText_len {l : List UInt8} (h : l.length ≤ 1000000) : (putText l).length ≤ 1000010 := by
  unfold putText
  split
  · simp
  · have := putV_len (n := l.length) (by omega); simp; omega

set_option maxHeartbeats 2000000 in
set_option maxRecDepth 100000 in
theorem r18record_walk (x : Snp) (goes : Bool) (w : World) (hx1 : x.1.length ≤ 1000000) (hx2 : x.2.length ≤ 1000000) :
    Calls Try.prog 22 #[SnpV x, .bool goes] w fun e w' => e = .returned (S (recordR x goes)) ∧ Below w.heap.size w w' := by
  obtain ⟨p, q⟩ := x
  have HR := Lib.hid (show recordR (p, q) goes = if nameB p = false ∨ (goes = false ∧ q.length ≠ 32) then [] else if goes = true then 2 :: putText p else 1 :: (putText p ++ q) from rfl)
  generalize recordR (p, q) goes = rc at *
  simp only at hx1 hx2
  have hBx : Below w.heap.size w (w.alloc (.cells #[S p, S q] 31)) := (Below.refl _ _).alloc (Nat.le_refl _) _
  have hcx1 : (w.alloc (.cells #[S p, S q] 31)).cell? ⟨w.heap.size, 0, none⟩ = some (S p) := by rw [World.cell?_alloc_at _ _ _ _ rfl]; rfl
  have hcx2 : (w.alloc (.cells #[S p, S q] 31)).cell? ⟨w.heap.size, 1, none⟩ = some (S q) := by rw [World.cell?_alloc_at _ _ _ _ rfl]; rfl
  have hpl := putText_len hx1
  have hN : ∀ w, Calls Try.prog 44 #[S p] w fun e w' => e = .returned (.bool (nameB p)) ∧ w' = w := fun w => (rname_walk p w hx1).mono fun _ _ ⟨h1, h2⟩ => ⟨h1, h2.symm⟩
  generalize nameB p = nb at *
  cases nb with
  | false =>
    have HR1 := Lib.hid (HR.out.trans (if_pos (.inl rfl)))
    go_enter Try.func22, Try.ntmps22
    go_wp2_with (go_at_call 44; refine (hN _).mono ?_; rintro e w1 ⟨rfl, rfl⟩)
    go_ret
    exact ⟨by rw [HR1.out]; rfl, hBx⟩
  | true =>
    cases goes with
    | true =>
      have HR1 := Lib.hid ((HR.out.trans (if_neg (by simp))).trans (if_pos rfl))
      have C := r01puttext_walk p (w.alloc (.cells #[S p, S q] 31)) hx1
      generalize putText p = pt at *
      have hns : ¬ 9223372036854775807 < 1 + pt.length := by omega
      go_enter Try.func22, Try.ntmps22
      go_wp2_with (first
        | (go_at_call 44; refine (hN _).mono ?_; rintro e w1 ⟨rfl, rfl⟩)
        | (go_at_call 53; refine C.mono ?_; rintro e w2 ⟨rfl, hb⟩))
      go_ret
      exact ⟨by rw [HR1.out, ← S_cons]; rfl, below_chain hBx hb (by simp)⟩
    | false =>
      by_cases hq : q.length = 32
      · have HR1 := Lib.hid ((HR.out.trans (if_neg (by simp [hq]))).trans (if_neg (by simp)))
        have hq' : ((q.length : Int) != 32) = false := by rw [bne_eq_false_iff_eq]; omega
        go_enter Try.func22, Try.ntmps22
        go_upto_region 5 with (go_at_call 44; refine (hN _).mono ?_; rintro e w1 ⟨rfl, rfl⟩)
        have C := r01puttext_walk p ((w.alloc (.cells #[S p, S q] 31)).drewN 1) hx1
        generalize putText p = pt at *
        have hns : ¬ 9223372036854775807 < 1 + pt.length := by omega
        have hns2 : ¬ 9223372036854775807 < 1 + pt.length + q.length := by omega
        go_region_with (go_at_call 53; refine C.mono ?_; rintro e w2 ⟨rfl, hb⟩; have hc2 := cell_below hb (show World.cell? (World.drewN _ 1) _ = _ from hcx2))
        all_goals
          go_wp2
          go_ret
          exact ⟨by rw [HR1.out, ← S_cons2]; rfl, below_chain (belowN hBx 1) hb (by simp [World.drewN])⟩
      · have HR1 := Lib.hid (HR.out.trans (if_pos (.inr ⟨rfl, hq⟩)))
        have hq' : ((q.length : Int) != 32) = true := by rw [bne_iff_ne]; omega
        clear hq
        go_enter Try.func22, Try.ntmps22
        go_wp2_with (go_at_call 44; refine (hN _).mono ?_; rintro e w1 ⟨rfl, rfl⟩)
        go_ret
        exact ⟨by rw [HR1.out]; rfl, hBx⟩
end Go.Proofs.Ytmlahfmcccpgjaa
