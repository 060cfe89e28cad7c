/- The reference's trees by a seed. -/
import Derived.Test.YtdkmnolljllddaaDoorGenTree
import Derived.Test.YtdkmnolljllddaaDoorR30
import Derived.Test.YtdkmnolljllddaaDoorR10g
namespace Go.Proofs.YtdkmnolljllddaaDoor
open Go.RowKit

theorem numsG_get : ∀ (n k : Nat) (s : Int), k < n → (numsG n s)[k]? = some (outG (iterG (k + 1) s))
  | 0, _, _, h => by omega
  | n + 1, 0, s, _ => rfl
  | n + 1, k + 1, s, h => by rw [numsG, List.getElem?_cons_succ, numsG_get n k _ (by omega)]; rfl
theorem bset4' {B : Nat} {w w' : World} (h : Below B w w') {g : Nat} (hg : B ≤ g) (a b c d : Value) : Below B w ((((w'.setCell ⟨g, 0, none⟩ a).setCell ⟨g, 1, none⟩ b).setCell ⟨g, 2, none⟩ c).setCell ⟨g, 3, none⟩ d) :=
  below_setT (below_setT (below_setT (below_setT h hg 0 a) hg 1 b) hg 2 c) hg 3 d

set_option maxHeartbeats 4000000 in
set_option maxRecDepth 100000 in
theorem rtree_walk (s : Int) (w : World) (hs0 : 0 ≤ s) (hs1 : s < 18446744073709551616) :
    Calls Tryd.prog 25 #[.int .u64 s] w fun e w' => ∃ v', e = .returned v' ∧ ItRow w' v' (treeG s) ∧ Below w.heap.size w w' := by
  obtain ⟨w1, hw1, hB1, hrow⟩ : ∃ w1, w1 = w.alloc (.cells #[.string ⟨#[97]⟩, .string ⟨#[98]⟩, .string ⟨#[100]⟩, .string ⟨#[100, 47, 97]⟩, .string ⟨#[100, 47, 99]⟩, .string ⟨#[101]⟩, .string ⟨#[101, 47, 102]⟩, .string ⟨#[101, 47, 102, 47, 97]⟩] 9) ∧ Below w.heap.size w w1 ∧ StrRow w1 (.slice (some ⟨w.heap.size, 0, none⟩) 8 8) pathsG :=
    ⟨_, rfl, (Below.refl _ _).alloc (Nat.le_refl _) _, row_lit w 9 pathsG (by decide)⟩
  have CN := rnums_walk s 8 w1 (by omega)
  rw [show (8 : Int).toNat = 8 from rfl] at CN
  have hnl := numsG_len 8 s
  have hng := fun k h => numsG_get 8 k s h
  generalize numsG 8 s = ns at *
  go_enter Tryd.func25, Tryd.ntmps25
  go_upto_region 2 with fail
  rw [← hw1]
  clear hw1
  go_wp2_with fail
  refine CN.mono ?_
  rintro e w2 ⟨v2, rfl, hnr, hb2⟩
  clear CN
  obtain ⟨a2, c2, rfl, hc2, hm2, hx2⟩ := hnr
  have hrow2 := hrow.below hb2
  obtain ⟨a1, c1, hv1, hc1, hm1, hx1⟩ := hrow2
  have HX1 := Lib.hid (show ∀ k p, pathsG[k]? = some p → w2.cell? ⟨w.heap.size, k, none⟩ = some (S p) by
    intro k p hp
    rcases hx1 with hx1 | ⟨b1, o1, hb1, hx1⟩
    · cases hx1
    · have h3 : a1 = some ⟨w.heap.size, 0, none⟩ := by cases hv1; rfl
      rw [h3] at hb1
      cases hb1
      simpa using hx1 k p hp)
  rcases hx2 with hx2 | ⟨b2, o2, rfl, hx2⟩
  · rw [hx2] at hnl; cases hnl
  have HX2 := Lib.hid (show ∀ k, k < 8 → w2.cell? ⟨b2, o2 + k, none⟩ = some (.int .u64 (outG (iterG (k + 1) s))) by
    intro k hk
    have h := hx2 k _ (hng k hk) 0 (.int .u64 (outG (iterG (k + 1) s))) rfl
    simpa using h)
  clear hx1 hx2 hv1 hc1 hm1 hrow hng
  have hB2 := below_chain hB1 hb2 hB1.size
  clear hB1 hb2
  rw [hnl] at hc2 ⊢
  go_wp2
  go_loopw [5, 6] (fun lv i wr => ∃ k : Nat, k ≤ 8 ∧ i = .int .i64 k ∧ ItRow wr lv (treeK s k) ∧ Below w2.heap.size w2 wr) (fun _ i _ => 8 - (intOf i).toNat)
  case atStart => exact ⟨0, Nat.zero_le _, rfl, Row.nil _ _, Below.refl _ _⟩
  case round =>
    obtain ⟨k, hk, rfl, hit, hB⟩ := hrel
    by_cases h8 : k < 8
    · have h8' : (k : Int) < 8 := by omega
      have hrg := outG_range (iterG k s)
      rw [← iterG_last] at hrg
      have HSTEP := Lib.hid (show treeK s (k + 1) = putO (treeK s k) (itemG s k (pathsG.getD k []) (outG (iterG (k + 1) s))) from rfl)
      have hfit := treeK_fit s k
      have hpl := treeK_path s k
      have hpk := pathsG_len k
      have hc1 := cell_below hB (HX1.out k (pathsG.getD k []) (by rw [List.getD_eq_getElem?_getD, List.getElem?_eq_getElem (by exact h8)]; rfl))
      have hc2 := cell_below hB (HX2.out k h8)
      generalize outG (iterG (k + 1) s) = x at *
      generalize pathsG.getD k [] = p at *
      have CP := fun (y : Itm) lv W h (hy : y.1 = p) (h2 : y.2.2.2.length ≤ 1100000) => r10put_walk lv (treeK s k) y W h (by have := hfit.len; omega) hfit.up (by have := hfit.size; omega) (fun z hz => by have := hpl z hz; omega) (by rw [hy]; omega) h2
      obtain ⟨w3, hw3, hb3, hz⟩ : ∃ w3, w3 = wr.alloc (.cells #[S p, .bool true, .bool false, .string ⟨#[]⟩] 32) ∧ Below wr.heap.size wr w3 ∧ w3.heap[wr.heap.size]? = some (.cells #[S p, .bool true, .bool false, .string ⟨#[]⟩] 32 (0, 0)) :=
        ⟨_, rfl, (Below.refl _ _).alloc (Nat.le_refl _) _, heap_alloc_new _ _⟩
      have hB3 := below_chain hB hb3 hB.size
      have hit3 := hit.below hb3
      have hl3 := hB.size
      go_upto_region 10 with fail
      rw [← hw3]
      have HIT0 := Lib.hid hit
      have HB30 := Lib.hid hb3
      clear hw3 hc1 hc2 hit hB hb3
      obtain ⟨⟨z0, z1, z2, z3⟩, ⟨f0, f1, f2, f3⟩, ⟨g0, g1, g2, g3⟩⟩ := box4 hz
      cases hdir : isDirG p with
      | true =>
        have HI := Lib.hid (show itemG s k p x = some (p, true, false, []) by unfold itemG; rw [hdir]; rfl)
        have C1 := CP (p, true, false, []) u5 w3 hit3 rfl (by simp)
        unfold isDirG at hdir
        cases h1 : (p == [100]) with
        | true =>
          have h1n : (p != [100]) = false := by simp [bne, h1]
          clear hdir f0 f1 f2 f3 g0 g1 g2 g3
          go_wp2_with fail
          refine C1.mono ?_
          rintro e w5 ⟨v5, rfl, hit5, hb5⟩
          have hr5 := Lib.hid (show ItRow w5 v5 (treeK s (k + 1)) by rw [HSTEP.out, HI.out]; exact hit5)
          go_wp2
          go_roundw
          case rel => exact ⟨k + 1, by omega, by go_num, hr5.out, below_chain hB3 hb5 hB3.size⟩
          case measure => simp [intOf]; omega
        | false =>
        have h1n : (p != [100]) = true := by simp [bne, h1]
        rw [h1, Bool.false_or] at hdir
        cases h2 : (p == [101]) with
        | true =>
          have h2n : (p != [101]) = false := by simp [bne, h2]
          clear hdir f0 f1 f2 f3 g0 g1 g2 g3
          go_wp2_with fail
          refine C1.mono ?_
          rintro e w5 ⟨v5, rfl, hit5, hb5⟩
          have hr5 := Lib.hid (show ItRow w5 v5 (treeK s (k + 1)) by rw [HSTEP.out, HI.out]; exact hit5)
          go_wp2
          go_roundw
          case rel => exact ⟨k + 1, by omega, by go_num, hr5.out, below_chain hB3 hb5 hB3.size⟩
          case measure => simp [intOf]; omega
        | false =>
          have h2n : (p != [101]) = true := by simp [bne, h2]
          rw [h2, Bool.false_or] at hdir
          have h3n : (p != [101, 47, 102]) = false := by simp [bne, hdir]
          clear f0 f1 f2 f3 g0 g1 g2 g3
          go_wp2_with fail
          refine C1.mono ?_
          rintro e w5 ⟨v5, rfl, hit5, hb5⟩
          have hr5 := Lib.hid (show ItRow w5 v5 (treeK s (k + 1)) by rw [HSTEP.out, HI.out]; exact hit5)
          go_wp2
          go_roundw
          case rel => exact ⟨k + 1, by omega, by go_num, hr5.out, below_chain hB3 hb5 hB3.size⟩
          case measure => simp [intOf]; omega
      | false =>
        have HI := Lib.hid (show itemG s k p x = if x % 4 = 0 then none else some (p, false, x % 8 == 1, textG (seedG s k) (x % 300)) by unfold itemG; rw [hdir]; rfl)
        unfold isDirG at hdir
        rw [Bool.or_eq_false_iff, Bool.or_eq_false_iff] at hdir
        obtain ⟨h1, h2, h3⟩ := hdir
        have h1n : (p != [100]) = true := by simp [bne, h1]
        have h2n : (p != [101]) = true := by simp [bne, h2]
        have h3n : (p != [101, 47, 102]) = true := by simp [bne, h3]
        by_cases h4 : x % 4 = 0
        · have hr5 := Lib.hid (show ItRow w3 u5 (treeK s (k + 1)) by rw [HSTEP.out, HI.out, if_pos h4]; exact hit3)
          have h4' : (x % 4 == 0) = true := by rw [beq_iff_eq]; exact h4
          clear hit3 f0 f1 f2 f3 g0 g1 g2 g3
          go_wp2
          go_roundw
          case rel => exact ⟨k + 1, by omega, by go_num, hr5.out, hB3⟩
          case measure => simp [intOf]; omega
        · have h4' : (x % 4 == 0) = false := by rw [beq_eq_false_iff_ne]; exact h4
          have HI2 := Lib.hid (HI.out.trans (if_neg h4))
          have CTX := rtext_walk (seedG s k) (x % 300) w3
          have htl := textG_len (seedG s k) (n := x % 300) (by omega) (by omega)
          have CP2 := fun lv W h => CP (p, false, x % 8 == 1, textG (seedG s k) (x % 300)) lv W h rfl (by simp only; omega)
          generalize textG (seedG s k) (x % 300) = tx at *
          have hsw : IntKind.u64.wrap (s + ((k : Int) + 1)) = seedG s k := by unfold seedG; push_cast; rfl
          have hkw : IntKind.i64.wrap ((k : Int) + 1) = (k : Int) + 1 := by rw [IntKind.wrap_i64]; omega
          have hkw2 : IntKind.u64.wrap ((k : Int) + 1) = (k : Int) + 1 := by simp only [IntKind.wrap, IntKind.bits, IntKind.signed]; simp; omega
          have hxw : IntKind.i64.wrap (x % 300) = x % 300 := by rw [IntKind.wrap_i64]; omega
          generalize seedG s k = sk at *
          have HZ := Lib.hid hz
          clear h4 CP htl z0 z1 z2 z3 f0 f1 f2 f3 g0 g1 g2 g3 hz
          go_wp2_with fail
          refine CTX.mono ?_
          rintro e w5 ⟨rfl, hb5⟩
          clear CTX
          have hB5 := below_chain hB3 hb5 hB3.size
          have hz5 := (hb5.block _ (heap_lt HZ.out)).trans HZ.out
          obtain ⟨⟨z0, z1, z2, z3⟩, ⟨f0, f1, f2, f3⟩, ⟨g0, g1, g2, g3⟩⟩ := box4 hz5
          go_upto_region 13 with fail
          have hbw := below_chain HB30.out hb5 HB30.out.size
          obtain ⟨w7, hw7, hz7, hB7, hb7⟩ : ∃ w7 : World, w7 = ((((w5.setCell ⟨wr.heap.size, 0, none⟩ (S p)).setCell ⟨wr.heap.size, 1, none⟩ (.bool false)).setCell ⟨wr.heap.size, 2, none⟩ (.bool (x % 8 == 1))).setCell ⟨wr.heap.size, 3, none⟩ (S tx)) ∧ w7.heap[wr.heap.size]? = some (.cells #[S p, .bool false, .bool (x % 8 == 1), S tx] 32 (0, 0)) ∧ Below w2.heap.size w2 w7 ∧ Below wr.heap.size wr w7 :=
            ⟨_, rfl, heap_set_cell (heap_set_cell (heap_set_cell (heap_set_cell hz5 _) _) _) _, bset4' hB5 hl3 _ _ _ _, bset4' hbw (Nat.le_refl _) _ _ _ _⟩
          rw [← hw7]
          clear hw7 z0 z1 z2 z3 f0 f1 f2 f3 g0 g1 g2 g3 hz5 hbw hB5
          obtain ⟨⟨z0, z1, z2, z3⟩, -, -⟩ := box4 hz7
          clear hz7
          go_wp2_with fail
          refine (CP2 u5 w7 (HIT0.out.below hb7)).mono ?_
          rintro e w8 ⟨v8, rfl, hit8, hb8⟩
          have hr8 := Lib.hid (show ItRow w8 v8 (treeK s (k + 1)) by rw [HSTEP.out, HI2.out]; exact hit8)
          clear CP2
          go_wp2
          go_roundw
          case rel => exact ⟨k + 1, by omega, by go_num, hr8.out, below_chain hB7 hb8 hB7.size⟩
          case measure => simp [intOf]; omega
    · have h8' : ¬ (k : Int) < 8 := by omega
      obtain rfl : k = 8 := by omega
      go_wp2
      go_ret
      exact ⟨_, rfl, hit, below_chain hB2 hB hB2.size⟩
end Go.Proofs.YtdkmnolljllddaaDoor
