/- The program's numbers, texts and choices by a seed. -/
import Derived.Test.YtdkmnolljllddaaDoorGenPlain
import Derived.Test.YtdkmnolljllddaaDoorBld
import Derived.Test.YtdkmnolljllddaaDoorJTail
import Derived.Test.YtdkmnolljllddaaDoorItB
namespace Go.Proofs.YtdkmnolljllddaaDoor
open Go.RowKit

/-- A seed's numbers as a function that keeps its state. -/
abbrev NextV (b : Nat) : Value := .func (.func 71) #[] #[.pointer (some ⟨b, 0, none⟩)]
set_option maxHeartbeats 1100000 in
set_option maxRecDepth 100000 in
theorem next_walk (b : Nat) (s : Int) (w : World) (hc : w.heap[b]? = some (.cells #[.int .u64 s] 36 (0, 0))) :
    Calls Tryd.prog 71 #[.pointer (some ⟨b, 0, none⟩)] w fun e w' => e = .returned (.int .u64 (outG (stepG s))) ∧ w' = w.setCell ⟨b, 0, none⟩ (.int .u64 (stepG s)) := by
  have h0 := heap_cell hc (j := 0) (v := .int .u64 s) rfl
  have hf := heap_free hc 0
  have hs := is_some h0
  go_enter Tryd.func71, Tryd.ntmps71
  go_wp2
  go_ret
  exact ⟨rfl, rfl⟩

abbrev SeedAt (w : World) (b : Nat) (s : Int) : Prop := w.heap[b]? = some (.cells #[.int .u64 s] 36 (0, 0))
theorem SeedAt.next {w : World} {b : Nat} {s : Int} (h : SeedAt w b s) (x : Int) : SeedAt (w.setCell ⟨b, 0, none⟩ (.int .u64 x)) b x := by
  have := heap_set_cell (o := 0) h (.int .u64 x)
  simpa using this
theorem SeedAt.kept {w w' : World} {b : Nat} {s : Int} (h : SeedAt w b s) (hb : Below w.heap.size w w') : SeedAt w' b s := (hb.block _ (heap_lt h)).trans h
set_option maxHeartbeats 400000 in
theorem numbers_walk (s : Int) (w : World) :
    Calls Tryd.prog 43 #[.int .u64 s] w fun e w' => e = .returned (NextV w.heap.size) ∧ w' = w.alloc (.cells #[.int .u64 s] 36) := by
  go_enter Tryd.func43, Tryd.ntmps43
  go_wp2
  go_ret
  exact ⟨rfl, rfl⟩

set_option maxHeartbeats 1100000 in
set_option maxRecDepth 100000 in
theorem pnumber_walk (s k : Int) (w : World) :
    Calls Tryd.prog 19 #[.int .u64 s, .int .i64 k] w fun e w' => e = .returned (.int .u64 (numberG s k)) ∧ Below w.heap.size w w' := by
  have HD := Lib.hid (show numberG s k = if k < 1 ∨ 100000 < k then 0 else outG (iterG k.toNat s) from rfl)
  generalize numberG s k = res at *
  by_cases h1 : k < 1
  · have HF := Lib.hid (HD.out.trans (if_pos (.inl h1)))
    go_enter Tryd.func19, Tryd.ntmps19
    go_wp2
    go_ret
    exact ⟨by rw [HF.out]; rfl, Below.refl _ _⟩
  by_cases h2 : 100000 < k
  · have HF := Lib.hid (HD.out.trans (if_pos (.inr h2)))
    go_enter Tryd.func19, Tryd.ntmps19
    go_wp2
    go_ret
    exact ⟨by rw [HF.out]; rfl, Below.refl _ _⟩
  have HF := Lib.hid (HD.out.trans (if_neg (by omega)))
  obtain ⟨K, rfl⟩ : ∃ K : Nat, k = ((K + 1 : Nat) : Int) := ⟨(k - 1).toNat, by omega⟩
  clear HD
  have hK : IntKind.i64.wrap (((K + 1 : Nat) : Int) - 1) = (K : Int) := by rw [IntKind.wrap_i64]; omega
  go_enter Tryd.func19, Tryd.ntmps19
  go_wp2_with fail
  refine (numbers_walk s w).mono ?_
  rintro e w1 ⟨rfl, rfl⟩
  have hs0 : SeedAt (w.alloc (.cells #[.int .u64 s] 36)) w.heap.size s := heap_alloc_new _ _
  have hB0 : Below w.heap.size w (w.alloc (.cells #[.int .u64 s] 36)) := (Below.refl _ _).alloc (Nat.le_refl _) _
  go_wp2
  go_loopw [16] (fun i wr => ∃ j : Nat, j ≤ K ∧ i = .int .i64 j ∧ SeedAt wr w.heap.size (iterG j s) ∧ Below w.heap.size w wr) (fun i _ => K - (intOf i).toNat)
  case atStart => exact ⟨0, Nat.zero_le _, rfl, hs0, hB0⟩
  case round =>
    obtain ⟨j, hj, rfl, hsd, hB⟩ := hrel
    have C := next_walk w.heap.size (iterG j s) wr hsd
    rw [← iterG_last] at C
    have HN := Lib.hid (hsd.next (iterG (j + 1) s))
    by_cases hjk : j < K
    · have hjk' : (j : Int) < (K : Int) := by omega
      go_wp2_with fail
      refine C.mono ?_
      rintro e w2 ⟨rfl, rfl⟩
      go_wp2
      go_roundw
      case rel => exact ⟨j + 1, by omega, by go_num, HN.out, hB.setCell (p := ⟨w.heap.size, 0, none⟩) (Nat.le_refl _) _⟩
      case measure => simp [intOf]; omega
    · have hjk' : ¬ (j : Int) < (K : Int) := by omega
      obtain rfl : j = K := by omega
      go_wp2_with fail
      refine C.mono ?_
      rintro e w2 ⟨rfl, rfl⟩
      go_wp2
      go_ret
      exact ⟨by rw [HF.out]; rfl, hB.setCell (p := ⟨w.heap.size, 0, none⟩) (Nat.le_refl _) _⟩

theorem set_grown (w : World) (g o : Nat) (v : Value) : w.grownBy (w.setCell ⟨g, o, none⟩ v) (some g) :=
  ⟨rfl, rfl, rfl, by simp, fun k hk hne => by
    have hne' : k ≠ g := fun e => hne (by rw [e])
    simp [World.setCell, Array.getElem?_modify, hne'.symm]⟩
theorem IsBld.set {B b g : Nat} {l : List UInt8} {w : World} (h : IsBld B b l w) (hg : g < B) (v : Value) : IsBld B b l (w.setCell ⟨g, 0, none⟩ v) := by
  have key : ∀ p, Lib.BuilderAt 114 5 B b p (Lib.byteCells l) w → Lib.BuilderAt 114 5 B b p (Lib.byteCells l) (w.setCell ⟨g, 0, none⟩ v) := by
    rintro p ⟨h1, u, h2, h3, h4⟩
    have hlt := heap_lt h2
    refine ⟨h1, u, ((set_grown w g 0 v).block b hlt (by intro e; cases e; omega)).trans h2, h3.kept (set_grown w g 0 v) ?_, h4⟩
    rcases h3.2 with ⟨h, _⟩ | ⟨k, cap, cur, h, h5, _⟩
    · rw [h]; exact .inl rfl
    · refine .inr ?_
      rw [h]; simp [Value.ownBlock]; omega
  exact h.elim (fun x => .inl (key _ x)) (fun x => .inr (key _ x))

set_option maxHeartbeats 2000000 in
set_option maxRecDepth 100000 in
theorem pbytes_walk (g : Nat) (f : Int → UInt8) (s n : Int) (w : World) (hn : n ≤ 1100000) (hen : ∀ args w, (callFunc g args).run Tryd.prog w = .ok (.enter g args) w)
    (hof : ∀ x w, 0 ≤ x → x < 2147483648 → Calls Tryd.prog g #[.int .u64 x] w fun e w' => e = .returned (.int .u8 ((f x).toNat : Nat)) ∧ w' = w) :
    Calls Tryd.prog 47 #[.int .u64 s, .int .i64 n, .func (.func g) #[] #[]] w fun e w' => e = .returned (S ((numsG n.toNat s).map f)) ∧ Below w.heap.size w w' := by
  have HOF := Lib.hid hof
  obtain ⟨K, hK, hK2⟩ : ∃ K : Nat, n.toNat = K ∧ (if 0 < n then n else 0) = (K : Int) := ⟨n.toNat, rfl, by split <;> omega⟩
  have hK3 : max 0 n = (K : Int) := by omega
  have hKl : K ≤ 1100000 := by omega
  rw [hK]
  clear hof hK
  go_enter Tryd.func47, Tryd.ntmps47
  go_wp2_with fail
  refine (numbers_walk s w).mono ?_
  rintro e w1 ⟨rfl, rfl⟩
  have hs0 : SeedAt (w.alloc (.cells #[.int .u64 s] 36)) w.heap.size s := heap_alloc_new _ _
  have hB0 : Below w.heap.size w (w.alloc (.cells #[.int .u64 s] 36)) := (Below.refl _ _).alloc (Nat.le_refl _) _
  have hfr := Lib.fresh_isBuilder 114 5 (w.alloc (.cells #[.int .u64 s] 36))
  simp only [World.size_alloc] at hfr
  have hs1 := hs0.kept ((Below.refl _ _).alloc (Nat.le_refl _) (.cells #[.pointer none, .slice none 0 0] 114))
  have hB1 : Below w.heap.size w ((w.alloc (.cells #[.int .u64 s] 36)).alloc (.cells #[.pointer none, .slice none 0 0] 114)) := hB0.alloc hB0.size _
  clear hs0 hB0
  go_wp2
  go_loopw [13] (fun i wr => ∃ j : Nat, j ≤ K ∧ i = .int .i64 j ∧ SeedAt wr w.heap.size (iterG j s) ∧ IsBld (w.heap.size + 1) (w.heap.size + 1) ((numsG j s).map f) wr ∧ Below w.heap.size w wr) (fun i _ => K - (intOf i).toNat)
  case atStart => exact ⟨0, Nat.zero_le _, rfl, hs1, hfr, hB1⟩
  case round =>
    obtain ⟨j, hj, rfl, hsd, hbld, hB⟩ := hrel
    have HB := Lib.hid hB
    have HBLD := Lib.hid hbld
    have hll : ((numsG j s).map f).length = j := by rw [List.length_map, numsG_len]
    by_cases hjk : j < K
    · have hjk' : (j : Int) < (K : Int) := by omega
      have C := next_walk w.heap.size (iterG j s) wr hsd
      have hrg := outG_range (iterG j s)
      rw [← iterG_last] at C hrg
      have HN := Lib.hid (hsd.next (iterG (j + 1) s))
      have HL := Lib.hid (show (numsG (j + 1) s).map f = (numsG j s).map f ++ [f (outG (iterG (j + 1) s))] by rw [numsG_last, List.map_append]; rfl)
      have hlt := heap_lt hsd
      have hbw := heap_lt (show (wr.setCell ⟨w.heap.size, 0, none⟩ (.int .u64 (iterG (j + 1) s))).heap[w.heap.size]? = _ from HN.out)
      have hbs := hbld.set (Nat.lt_succ_self w.heap.size) (.int .u64 (iterG (j + 1) s))
      generalize (numsG j s).map f = ou at *
      have C2 := HOF.out (outG (iterG (j + 1) s)) (wr.setCell ⟨w.heap.size, 0, none⟩ (.int .u64 (iterG (j + 1) s))) hrg.1 hrg.2
      have C3 := wbyte_walk (w.heap.size + 1) (w.heap.size + 1) ou (f (outG (iterG (j + 1) s))) _ (wr.setCell ⟨w.heap.size, 0, none⟩ (.int .u64 (iterG (j + 1) s))) rfl hbs (by omega) hbw
      clear hsd hbld hrg hbs hll
      go_wp2_with fail
      refine C.mono ?_
      rintro e w2 ⟨rfl, hw9⟩
      rw [hw9]
      clear hw9 w2
      go_wp2_with fail
      refine C2.mono ?_
      rintro e w2 ⟨rfl, hw9⟩
      rw [hw9]
      clear hw9 w2
      go_wp2_with fail
      refine C3.mono ?_
      rintro e w3 ⟨rfl, hbld3, hb3⟩
      have hsd3 : SeedAt w3 w.heap.size (iterG (j + 1) s) := (hb3.block w.heap.size (by omega)).trans HN.out
      have hB3 : Below w.heap.size w w3 := (HB.out.setCell (p := ⟨w.heap.size, 0, none⟩) (Nat.le_refl _) _).trans (hb3.mono (by omega))
      clear hb3
      go_wp2
      go_roundw
      case rel => exact ⟨j + 1, by omega, by go_num, hsd3, by rw [HL.out]; exact hbld3, hB3⟩
      case measure => simp [intOf]; omega
    · have hjk' : ¬ (j : Int) < (K : Int) := by omega
      obtain rfl : j = K := by omega
      have hbw := heap_lt hsd
      go_wp2_with fail
      refine (bstring_walk (w.heap.size + 1) (w.heap.size + 1) _ wr hbld hbw).mono ?_
      rintro e w2 ⟨rfl, hb2⟩
      go_wp2
      go_ret
      exact ⟨rfl, HB.out.trans (hb2.mono (by omega))⟩

set_option maxHeartbeats 1100000 in
theorem char_walk (x : Int) (w : World) (h0 : 0 ≤ x) (h1 : x < 2147483648) :
    Calls Tryd.prog 48 #[.int .u64 x] w fun e w' => e = .returned (.int .u8 ((charG x).toNat : Nat)) ∧ w' = w := by
  have HC := Lib.hid (charG_nat h0)
  have h7 := and7 h0 h1
  generalize (charG x).toNat = c at *
  have hw : IntKind.u8.wrap (x % 8) = x % 8 := by simp only [IntKind.wrap, IntKind.bits, IntKind.signed]; simp; omega
  have hw2 : IntKind.u8.wrap (97 + x % 8) = 97 + x % 8 := by simp only [IntKind.wrap, IntKind.bits, IntKind.signed]; simp; omega
  go_enter Tryd.func48, Tryd.ntmps48
  go_wp2
  go_ret
  exact ⟨by rw [HC.out]; rfl, rfl⟩
set_option maxHeartbeats 1100000 in
theorem choice_walk (x : Int) (w : World) (h0 : 0 ≤ x) (h1 : x < 2147483648) :
    Calls Tryd.prog 50 #[.int .u64 x] w fun e w' => e = .returned (.int .u8 ((byteG x).toNat : Nat)) ∧ w' = w := by
  have HC := Lib.hid (byteG_nat h0)
  generalize (byteG x).toNat = c at *
  have hw : IntKind.u8.wrap x = x % 256 := by simp only [IntKind.wrap, IntKind.bits, IntKind.signed]; simp
  go_enter Tryd.func50, Tryd.ntmps50
  go_wp2
  go_ret
  exact ⟨by rw [HC.out]; rfl, rfl⟩

set_option maxHeartbeats 1100000 in
theorem ptext_walk (s n : Int) (w : World) : Calls Tryd.prog 21 #[.int .u64 s, .int .i64 n] w fun e w' => e = .returned (S (textG s n)) ∧ Below w.heap.size w w' := by
  have C := pbytes_walk 48 charG s (min n 32768) w (by omega) (enters_of Tryd.func48 (by kernel_rfl) rfl) char_walk
  rw [show (numsG (min n 32768).toNat s).map charG = textG s n from rfl] at C
  generalize textG s n = t at *
  go_enter Tryd.func21, Tryd.ntmps21
  go_wp2_with (go_at_call 47; refine (C).mono ?_; rintro e w1 ⟨rfl, hb⟩)
  go_ret
  exact ⟨rfl, hb⟩
set_option maxHeartbeats 1100000 in
theorem pchoices_walk (s n : Int) (w : World) : Calls Tryd.prog 23 #[.int .u64 s, .int .i64 n] w fun e w' => e = .returned (S (choiceG s n)) ∧ Below w.heap.size w w' := by
  have C := pbytes_walk 50 byteG s (min n 4096) w (by omega) (enters_of Tryd.func50 (by kernel_rfl) rfl) choice_walk
  rw [show (numsG (min n 4096).toNat s).map byteG = choiceG s n from rfl] at C
  generalize choiceG s n = t at *
  go_enter Tryd.func23, Tryd.ntmps23
  go_wp2_with (go_at_call 47; refine (C).mono ?_; rintro e w1 ⟨rfl, hb⟩)
  go_ret
  exact ⟨rfl, hb⟩
end Go.Proofs.YtdkmnolljllddaaDoor
