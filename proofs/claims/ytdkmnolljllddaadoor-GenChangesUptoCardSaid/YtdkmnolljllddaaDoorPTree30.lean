/- The program's trees by a seed. -/
import Derived.Test.YtdkmnolljllddaaDoorGenTree
import Derived.Test.YtdkmnolljllddaaDoorGen
import Derived.Test.YtdkmnolljllddaaDoorPPut10
import Derived.Deep.CutRange
namespace Go.Proofs.YtdkmnolljllddaaDoor
open Go.RowKit

/-- The library's table of white space. -/
def SpTab (w : World) : Prop := ∀ c : Nat, c < 256 → w.cell? ⟨0, c, none⟩ = some (.int .u8 (if Lib.isSp (UInt8.ofNat c) then 1 else 0))
theorem SpTab.below {w w' : World} (h : SpTab w) (hb : Below w.heap.size w w') : SpTab w' := fun c hc => cell_below hb (h c hc)
theorem SpTab.of {w : World} (h : Lib.TabIs Tryd.prog w "strings.asciiSpace" .u8 Lib.asciiSpaceTab) : SpTab w := fun c hc => by
  rw [h.cell (g := 0) (by kernel_rfl) c (by rw [Lib.asciiSpaceTab_length]; exact hc), Lib.asciiSpaceTab_at c hc]
/-- The names of the generated tree, laid by strings.Fields. -/
abbrev namesS : List UInt8 := [97, 32, 98, 32, 100, 32, 100, 47, 97, 32, 100, 47, 99, 32, 101, 32, 101, 47, 102, 32, 101, 47, 102, 47, 97]
theorem fields_walk (w : World) (h : SpTab w) :
    Calls Tryd.prog 44 #[S namesS] w fun e w' => e = .returned (.slice (some ⟨w.heap.size, 0, none⟩) 8 8) ∧ w' = w.alloc (.cells (pathsG.map S).toArray 9) := by
  have C := Any.strings_Fields_core Tryd.lays157 (by kernel_rfl) ⟨namesS.toArray⟩ w (by decide) (by
    intro j b hb
    have hall : namesS.all (fun b => decide (b.toNat < 128)) = true := by decide
    exact of_decide_eq_true (List.all_eq_true.1 hall b (List.mem_of_getElem? hb))) h
  have e : Lib.fields (⟨namesS.toArray⟩ : ByteArray).data.toList = pathsG := by decide
  rw [e] at C
  exact C

theorem cell_set {w : World} {b c o : Nat} {s x : Int} {u : Value} (hs : SeedAt w b s) (h : w.cell? ⟨c, o, none⟩ = some u) (hu : ∀ k z, u ≠ .int k z) : (w.setCell ⟨b, 0, none⟩ (.int .u64 x)).cell? ⟨c, o, none⟩ = some u := by
  have hne : (⟨b, 0, none⟩ : Addr) ≠ ⟨c, o, none⟩ := fun e => by
    cases e
    rw [heap_cell hs (j := 0) (v := .int .u64 s) rfl] at h
    exact hu _ _ (Option.some.inj h).symm
  rw [World.cell?_setCell_other (h := hne)]
  exact h
theorem ItRow.set {w : World} {b : Nat} {s x : Int} {v : Value} {l : List Itm} (hs : SeedAt w b s) (h : ItRow w v l) : ItRow (w.setCell ⟨b, 0, none⟩ (.int .u64 x)) v l := by
  obtain ⟨a, c, rfl, hc, hm, hx⟩ := h
  refine ⟨a, c, rfl, hc, hm, ?_⟩
  rcases hx with hx | ⟨b1, o, ha, hx⟩
  · exact .inl hx
  · refine .inr ⟨b1, o, ha, fun j z hz i u hu => cell_set hs (hx j z hz i u hu) ?_⟩
    intro k y e
    subst e
    match i, hu with
    | 0, hu => simp at hu
    | 1, hu => simp at hu
    | 2, hu => simp at hu
    | 3, hu => simp at hu
theorem StrRow.set {w : World} {b : Nat} {s x : Int} {v : Value} {l : List (List UInt8)} (hs : SeedAt w b s) (h : StrRow w v l) : StrRow (w.setCell ⟨b, 0, none⟩ (.int .u64 x)) v l := by
  obtain ⟨a, c, rfl, hc, hm, hx⟩ := h
  refine ⟨a, c, rfl, hc, hm, ?_⟩
  rcases hx with hx | ⟨b1, o, ha, hx⟩
  · exact .inl hx
  · exact .inr ⟨b1, o, ha, fun j z hz => cell_set hs (hx j z hz) (fun k y e => by cases e)⟩

set_option maxHeartbeats 4000000 in
set_option maxRecDepth 100000 in
theorem ptree_walk (s : Int) (w : World) (hs0 : 0 ≤ s) (hs1 : s < 18446744073709551616) (hM : Mx w) (hT : SpTab w) :
    Calls Tryd.prog 17 #[.int .u64 s] w fun e w' => ∃ v', e = .returned v' ∧ ItRow w' v' (treeG s) ∧ Below w.heap.size w w' := by
  have HM := Lib.hid hM
  have HT := Lib.hid hT
  clear hM hT
  go_enter Tryd.func17, Tryd.ntmps17
  go_wp2_with fail
  refine (numbers_walk s w).mono ?_
  rintro e w1 ⟨rfl, rfl⟩
  have hsd0 : SeedAt (w.alloc (.cells #[.int .u64 s] 36)) w.heap.size s := heap_alloc_new _ _
  have hB0 : Below w.heap.size w (w.alloc (.cells #[.int .u64 s] 36)) := (Below.refl _ _).alloc (Nat.le_refl _) _
  go_wp2_with fail
  refine (fields_walk _ (HT.out.below hB0)).mono ?_
  rintro e w2 ⟨rfl, rfl⟩
  obtain ⟨w3, hw3, hb3, hrow⟩ : ∃ w3, w3 = (w.alloc (.cells #[.int .u64 s] 36)).alloc (.cells (pathsG.map S).toArray 9) ∧ Below (w.heap.size + 1) (w.alloc (.cells #[.int .u64 s] 36)) w3 ∧ StrRow w3 (.slice (some ⟨w.heap.size + 1, 0, none⟩) 8 8) pathsG :=
    ⟨_, rfl, (Below.refl _ _).alloc (by simp) _, by have h := row_lit (w.alloc (.cells #[.int .u64 s] 36)) 9 pathsG (by decide); simp only [World.size_alloc] at h; exact h⟩
  rw [← hw3]
  clear hw3
  simp only [World.size_alloc]
  have hrow0 := hrow
  have hB3 : Below w.heap.size w w3 := hB0.trans (hb3.mono (by omega))
  have hsd3 : SeedAt w3 w.heap.size s := (hb3.block w.heap.size (by omega)).trans hsd0
  clear hsd0 hB0 hb3
  go_wp2
  go_loopw [4, 12] (fun lv i wr => ∃ k : Nat, k ≤ 8 ∧ i = .int .i64 k ∧ SeedAt wr w.heap.size (iterG k s) ∧ StrRow wr (.slice (some ⟨w.heap.size + 1, 0, none⟩) 8 8) pathsG ∧ ItRow wr lv (treeK s k) ∧ Below w.heap.size w wr) (fun _ i _ => 8 - (intOf i).toNat)
  case atStart => exact ⟨0, Nat.zero_le _, rfl, hsd3, hrow, Row.nil _ _, hB3⟩
  case round =>
    obtain ⟨k, hk, rfl, hsd, hrw, hit, hB⟩ := hrel
    by_cases h8 : k < 8
    · have h8' : (k : Int) < 8 := by omega
      have C := next_walk w.heap.size (iterG k s) wr hsd
      have hrg := outG_range (iterG k s)
      rw [← iterG_last] at C hrg
      have HN := Lib.hid (hsd.next (iterG (k + 1) s))
      have HSTEP := Lib.hid (show treeK s (k + 1) = putO (treeK s k) (itemG s k (pathsG.getD k []) (outG (iterG (k + 1) s))) from rfl)
      have hfit := treeK_fit s k
      have hpl := treeK_path s k
      have hpk := pathsG_len k
      have hgd : pathsG[k]? = some (pathsG.getD k []) := by rw [List.getD_eq_getElem?_getD, List.getElem?_eq_getElem (by exact h8)]; rfl
      obtain ⟨a1, c1, hv1, hc1, hm1, hx1⟩ := id hrw
      have hcell : wr.cell? ⟨w.heap.size + 1, k, none⟩ = some (S (pathsG.getD k [])) := by
        rcases hx1 with hx1 | ⟨b1, o1, hb1, hx1⟩
        · cases hx1
        · have h2 := hx1 k _ hgd
          have h3 : a1 = some ⟨w.heap.size + 1, 0, none⟩ := by cases hv1; rfl
          rw [h3] at hb1
          cases hb1
          simpa using h2
      clear hv1 hc1 hm1 hx1 hgd
      generalize outG (iterG (k + 1) s) = x at *
      generalize hsd9 : iterG (k + 1) s = sd at *
      have HSD := Lib.hid hsd9
      clear hsd9
      generalize pathsG.getD k [] = p at *
      go_wp2_with fail
      refine C.mono ?_
      rintro e w4 ⟨rfl, hw4⟩
      have hB4 : Below w.heap.size w w4 := by rw [hw4]; exact hB.setCell (p := ⟨w.heap.size, 0, none⟩) (Nat.le_refl _) _
      have hsd4 : SeedAt w4 w.heap.size sd := by rw [hw4]; exact HN.out
      have hrw4 : StrRow w4 (.slice (some ⟨w.heap.size + 1, 0, none⟩) 8 8) pathsG := by rw [hw4]; exact hrw.set hsd
      have hit4 : ItRow w4 u4 (treeK s k) := by rw [hw4]; exact hit.set hsd
      clear hw4 hsd hrw hit HN hB C hcell
      have CP := fun (y : Itm) W h hM (hy : itemG s k p x = some y ∨ y.1 = p) (h2 : y.2.2.2.length ≤ 1100000) => pput10_walk u4 (treeK s k) y W h (by have := hfit.len; omega) hfit.up (by have := hfit.size; omega) hM (fun z hz => by have := hpl z hz; omega) (hy.elim (fun hy => by rw [itemG_path hy]; omega) (fun hy => by rw [hy]; omega)) h2
      cases hdir : isDirG p with
      | true =>
        have HI := Lib.hid (show itemG s k p x = some (p, true, false, []) by unfold itemG; rw [hdir]; rfl)
        have C1 := CP (p, true, false, []) w4 hit4 (HM.out.below hB4) (.inr rfl) (by simp)
        unfold isDirG at hdir
        cases h1 : (p == [100]) with
        | true =>
          clear hdir
          go_wp2_with fail
          refine C1.mono ?_
          rintro e w5 ⟨v5, rfl, hit5, hb5⟩
          have hr5 := Lib.hid (show ItRow w5 v5 (treeK s (k + 1)) by rw [HSTEP.out, HI.out]; exact hit5)
          go_wp2
          go_roundw
          case rel => exact ⟨k + 1, by omega, by go_num, by rw [HSD.out]; exact hsd4.kept hb5, hrw4.below hb5, hr5.out, below_chain hB4 hb5 hB4.size⟩
          case measure => simp [intOf]; omega
        | false =>
        rw [h1, Bool.false_or] at hdir
        cases h2 : (p == [101]) with
        | true =>
          clear hdir
          go_wp2_with fail
          refine C1.mono ?_
          rintro e w5 ⟨v5, rfl, hit5, hb5⟩
          have hr5 := Lib.hid (show ItRow w5 v5 (treeK s (k + 1)) by rw [HSTEP.out, HI.out]; exact hit5)
          go_wp2
          go_roundw
          case rel => exact ⟨k + 1, by omega, by go_num, by rw [HSD.out]; exact hsd4.kept hb5, hrw4.below hb5, hr5.out, below_chain hB4 hb5 hB4.size⟩
          case measure => simp [intOf]; omega
        | false =>
          rw [h2, Bool.false_or] at hdir
          go_wp2_with fail
          refine C1.mono ?_
          rintro e w5 ⟨v5, rfl, hit5, hb5⟩
          have hr5 := Lib.hid (show ItRow w5 v5 (treeK s (k + 1)) by rw [HSTEP.out, HI.out]; exact hit5)
          go_wp2
          go_roundw
          case rel => exact ⟨k + 1, by omega, by go_num, by rw [HSD.out]; exact hsd4.kept hb5, hrw4.below hb5, hr5.out, below_chain hB4 hb5 hB4.size⟩
          case measure => simp [intOf]; omega
      | false =>
        have HI := Lib.hid (show itemG s k p x = if x % 4 = 0 then none else some (p, false, x % 8 == 1, textG (seedG s k) (x % 300)) by unfold itemG; rw [hdir]; rfl)
        unfold isDirG at hdir
        rw [Bool.or_eq_false_iff, Bool.or_eq_false_iff] at hdir
        obtain ⟨h1, h2, h3⟩ := hdir
        have a3 := and3 hrg.1 hrg.2
        have a7 := and7 hrg.1 hrg.2
        by_cases h4 : x % 4 = 0
        · have hr5 := Lib.hid (show ItRow w4 u4 (treeK s (k + 1)) by rw [HSTEP.out, HI.out, if_pos h4]; exact hit4)
          have h4' : (x % 4 != 0) = false := by rw [bne_eq_false_iff_eq]; exact h4
          clear hit4
          go_wp2
          go_roundw
          case rel => exact ⟨k + 1, by omega, by go_num, by rw [HSD.out]; exact hsd4, hrw4, hr5.out, hB4⟩
          case measure => simp [intOf]; omega
        · have h4' : (x % 4 != 0) = true := by rw [bne_iff_ne]; exact h4
          have HI2 := Lib.hid (HI.out.trans (if_neg h4))
          have CTX := ptext_walk (seedG s k) (x % 300) w4
          have htl := textG_len (seedG s k) (n := x % 300) (by omega) (by omega)
          have CP2 := fun W h hM => CP (p, false, x % 8 == 1, textG (seedG s k) (x % 300)) W h hM (.inr rfl) (by simp only; omega)
          generalize textG (seedG s k) (x % 300) = tx at *
          have hsw := seed_wrap s k
          have hkw : IntKind.u64.wrap (k : Int) = (k : Int) := by simp only [IntKind.wrap, IntKind.bits, IntKind.signed]; simp; omega
          have hxw : IntKind.i64.wrap (x % 300) = x % 300 := by rw [IntKind.wrap_i64]; omega
          generalize seedG s k = sk at *
          clear h4 CP htl
          go_wp2_with fail
          refine CTX.mono ?_
          rintro e w5 ⟨rfl, hb5⟩
          clear CTX
          have hB5 := below_chain hB4 hb5 hB4.size
          go_wp2_with fail
          refine (CP2 w5 (hit4.below hb5) (HM.out.below hB5)).mono ?_
          rintro e w6 ⟨v6, rfl, hit6, hb6⟩
          have hr6 := Lib.hid (show ItRow w6 v6 (treeK s (k + 1)) by rw [HSTEP.out, HI2.out]; exact hit6)
          clear CP2
          go_wp2
          go_roundw
          case rel => exact ⟨k + 1, by omega, by go_num, by rw [HSD.out]; exact (hsd4.kept hb5).kept hb6, (hrw4.below hb5).below hb6, hr6.out, below_chain hB5 hb6 hB5.size⟩
          case measure => simp [intOf]; omega
    · have h8' : ¬ (k : Int) < 8 := by omega
      obtain rfl : k = 8 := by omega
      go_wp2
      go_ret
      exact ⟨_, rfl, hit, hB⟩
end Go.Proofs.YtdkmnolljllddaaDoor
