/- The program's lay and seen. -/
import Derived.Test.YthjoaoakadaieaaRLay
import Derived.Test.YthjoaoakadaieaaShelf
import Derived.Lib.RepeatB
namespace Go.Proofs.Ythjoaoakadaieaa
open Go.RowKit

theorem repeat_zeros (n : Nat) : Lib.repeatL [0] n = zerosL n := by
  have := Lib.repeatL_replicate 0 1 n
  simpa [zerosL] using this

set_option maxHeartbeats 2000000 in
set_option maxRecDepth 100000 in
theorem play_walk (s : List UInt8) (o : Opn) (w : World) (hs : s.length ≤ 262144) (ho : badO o = false) :
    Calls Try.prog 42 #[S s, OpV o] w fun e w' => e = .returned (S (layO s o)) ∧ Below w.heap.size w w' := by
  obtain ⟨g1, g2, _, g3⟩ := (badO_iff o).1 ho
  obtain ⟨p, t⟩ := o
  simp only at g1 g2 g3
  obtain ⟨k, rfl⟩ : ∃ k : Nat, p = k := ⟨p.toNat, by omega⟩
  have HO := Lib.hid (show layO s ((k : Int), t) = layD s k t from rfl)
  generalize layO s ((k : Int), t) = ly at *
  clear ho
  have hb0 : Below w.heap.size w (w.alloc (.cells #[.int .i64 k, S t] 69)) := (Below.refl _ _).alloc (Nat.le_refl _) _
  have hd0 := cell_new w #[.int .i64 k, S t] 69 0 rfl
  have hd1 := cell_new w #[.int .i64 k, S t] 69 1 rfl
  by_cases h1 : s.length < k + t.length
  · have HL := Lib.hid (layD_prog h1)
    obtain ⟨z, hz⟩ : ∃ z, z = zerosL (k + t.length - s.length) := ⟨_, rfl⟩
    have hzl : z.length = k + t.length - s.length := by rw [hz, zerosL_len]
    rw [← hz] at HL
    have h2 : ¬ 9223372036854775807 < s.length + z.length := by omega
    have C := Try.strings_Repeat ⟨[0].toArray⟩ (k + t.length - s.length) (w.alloc (.cells #[.int .i64 k, S t] 69)) (by omega) (by show 1 * _ ≤ _; omega)
    have e1 : Lib.repeatL (({ data := [0].toArray } : ByteArray).data.toList) (k + t.length - s.length) = z := by rw [hz]; exact repeat_zeros _
    rw [e1] at C
    have e2 : ((k + t.length - s.length : Nat) : Int) = (k : Int) + (t.length : Int) - (s.length : Int) := by omega
    rw [e2] at C
    have h3 : (0 : Int) < (k : Int) + (t.length : Int) - (s.length : Int) := by omega
    have h4 : k + t.length ≤ s.length + z.length := by omega
    have h5 : k ≤ s.length + z.length := by omega
    have h6 : (k : Int) ≤ (s.length : Int) + (z.length : Int) := by omega
    have h7 : (k : Int) + (t.length : Int) ≤ (s.length : Int) + (z.length : Int) := by omega
    have hw1 : IntKind.i64.wrap ((k : Int) + (t.length : Int)) = (k : Int) + (t.length : Int) := by rw [IntKind.wrap_i64]; omega
    have hw2 : IntKind.i64.wrap ((k : Int) + (t.length : Int) - (s.length : Int)) = (k : Int) + (t.length : Int) - (s.length : Int) := by rw [IntKind.wrap_i64]; omega
    clear hz hzl e1 e2
    go_enter Try.func42, Try.ntmps42
    go_wp2_with fail
    refine C.mono ?_
    rintro e w1 ⟨rfl, hb1⟩
    have hc0 := cell_below hb1 hd0
    have hc1 := cell_below hb1 hd1
    go_wp2
    go_quiet (fail)
    go_wp2
    go_ret
    exact ⟨by rw [HO.out, ← HL.out, ← cutL_head, ← cutL_tail (s ++ z) (k + t.length) (s.length + z.length) (by simp), ← List.append_assoc]; exact congrArg (fun x => Ending.returned (Value.string x)) (by rw [ba_cat, ba_cut, ba_cut, ba_cat, ba_cat]), belowN (below_chain hb0 hb1 (by simp)) _⟩
  · have h3 : ¬ (0 : Int) < (k : Int) + (t.length : Int) - (s.length : Int) := by omega
    have HL := Lib.hid (layD_in (s := s) (t := t) (k := k) (by omega))
    have h5 : (k : Int) ≤ (s.length : Int) := by omega
    have h7 : (k : Int) + (t.length : Int) ≤ (s.length : Int) := by omega
    have hw1 : IntKind.i64.wrap ((k : Int) + (t.length : Int)) = (k : Int) + (t.length : Int) := by rw [IntKind.wrap_i64]; omega
    have hw2 : IntKind.i64.wrap ((k : Int) + (t.length : Int) - (s.length : Int)) = (k : Int) + (t.length : Int) - (s.length : Int) := by rw [IntKind.wrap_i64]; omega
    go_enter Try.func42, Try.ntmps42
    go_wp2
    go_quiet (fail)
    go_wp2
    go_ret
    exact ⟨by rw [HO.out, ← HL.out, ← cutL_head, ← cutL_tail s (k + t.length) s.length (Nat.le_refl _), ← List.append_assoc]; exact congrArg (fun x => Ending.returned (Value.string x)) (by rw [ba_cut, ba_cut, ba_cat, ba_cat]), belowN hb0 _⟩

set_option maxHeartbeats 2000000 in
set_option maxRecDepth 100000 in
theorem pseen_walk (x : DF) (w : World) (hr : OpRow w x.ov x.ops) (hb : badF x.lo = false) :
    Calls Try.prog 45 #[DFV x] w fun e w' => e = .returned (S (seenL x.data x.ops)) ∧ Below w.heap.size w w' := by
  obtain ⟨nm, dt, ov, os⟩ := x
  obtain ⟨_, hol, hdl, hall⟩ := (badF_iff _).1 hb
  simp only [DF.lo] at hr hol hdl hall
  obtain ⟨a, c, rfl, hc, hm, hx⟩ := hr
  have HX := Lib.hid hx
  have HALL := Lib.hid hall
  have HLEN := Lib.hid (fun (k : Nat) => seenL_len (ops := os.take k) (s := dt) hdl (fun o ho => hall o (List.mem_of_mem_take ho)))
  clear hx hall hb
  have hb0 : Below w.heap.size w (w.alloc (.cells #[S nm, S dt, .slice a os.length c] 50)) := (Below.refl _ _).alloc (Nat.le_refl _) _
  go_enter Try.func45, Try.ntmps45
  go_wp2
  go_loopw [3, 11] (fun s i wr => ∃ k : Nat, k ≤ os.length ∧ i = .int .i64 k ∧ s = S (seenL dt (os.take k)) ∧ Below w.heap.size w wr) (fun _ i _ => os.length - (intOf i).toNat)
  case atStart => exact ⟨0, Nat.zero_le _, rfl, rfl, hb0⟩
  case round =>
    obtain ⟨k, hk, rfl, rfl, hB⟩ := hrel
    have HB := Lib.hid hB
    by_cases h1 : k < os.length
    · have hx := HX.out
      rcases hx with hx | ⟨b, o, rfl, hx⟩
      · exfalso; rw [hx] at h1; simp at h1
      obtain ⟨hx1, hx2⟩ := op_cells hx h1
      have hc1 := cell_below hB hx1
      have hc2 := cell_below hB hx2
      have hsl := HLEN.out k
      have HS := Lib.hid (seenL_step (s := dt) h1)
      have hbo := HALL.out os[k] (by simp)
      clear hx hx1 hx2 hB
      generalize seenL dt (os.take k) = sk at *
      have CL := fun w => play_walk sk os[k] w hsl hbo
      generalize layO sk os[k] = sn at *
      generalize os[k] = y at *
      obtain ⟨p, q⟩ := y
      simp only at hc1 hc2 CL
      have h1' : (k : Int) < (os.length : Int) := by omega
      go_wp2_with (go_at_call 42; refine (CL _).mono ?_; rintro e w1 ⟨rfl, hb1⟩)
      go_roundw
      case rel => exact ⟨k + 1, by omega, by go_num, by rw [HS.out], below_chain (HB.out.alloc HB.out.size _) hb1 (by have := HB.out.size; simp; omega)⟩
      case measure => simp [intOf]; omega
    · have h1' : ¬ (k : Int) < (os.length : Int) := by omega
      rw [List.take_of_length_le (by omega)]
      go_wp2
      go_ret
      exact ⟨rfl, hB⟩
end Go.Proofs.Ythjoaoakadaieaa
