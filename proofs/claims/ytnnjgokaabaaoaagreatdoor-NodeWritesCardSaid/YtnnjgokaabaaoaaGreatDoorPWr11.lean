/- The program's Write of a node, at the two nodes that awake() writes. -/
import Derived.Test.YtnnjgokaabaaoaaGreatDoorBldS
import Derived.Test.YtnnjgokaabaaoaaGreatDoorPVar
import Derived.Test.YtnnjgokaabaaoaaGreatDoorPFit11
namespace Go.Proofs.YtnnjgokaabaaoaaGreatDoor
open Go.RowKit

theorem putV_zero : putV 0 = [0] := putV_small (by omega)

theorem bld_on {B b : Nat} {l : List UInt8} {w w' : World} (h : IsBld B b l w) (hb : Below w.heap.size w w') : IsBld B b l w' := by
  rcases h with ⟨hB, v, hbk, hown, hne⟩ | ⟨hB, v, hbk, hown, hne⟩
  · exact .inl ⟨hB, v, (hb.block b (heap_lt hbk)).trans hbk, own_on hown hb, hne⟩
  · exact .inr ⟨hB, v, (hb.block b (heap_lt hbk)).trans hbk, own_on hown hb, hne⟩

set_option maxHeartbeats 4000000 in
set_option maxRecDepth 100000 in
theorem list0_walk (fv : Value) (w : World) :
    Calls Tryz.prog 26 #[.slice none 0 0, fv] w fun e w' => e = .returned (S [0]) ∧ Below w.heap.size w w' := by
  have hfr := Lib.fresh_isBuilder 98 5 w
  obtain ⟨w1, hw1, hb1, hz1⟩ : ∃ w1, w1 = w.alloc (.cells #[.pointer none, .slice none 0 0] 98) ∧ Below w.heap.size w w1 ∧ IsBld w.heap.size w.heap.size [] w1 :=
    ⟨_, rfl, (Below.refl _ _).alloc (Nat.le_refl _) _, hfr⟩
  have HB1 := Lib.hid hb1
  have HZ1 := Lib.hid hz1
  have CP : Calls Tryz.prog 59 #[.int .u64 0] w1 (fun e w' => e = .returned (S [0]) ∧ Below w1.heap.size w1 w') := by
    have h := pput_walk 0 w1 (by omega)
    rw [putV_zero] at h
    exact h
  clear hfr hb1 hz1
  go_enter Tryz.func26, Tryz.ntmps26
  go_upto_region 2 with fail
  rw [← hw1]
  clear hw1
  go_wp2_with fail
  refine CP.mono ?_
  rintro e w2 ⟨rfl, hb2⟩
  have hB2 := below_chain HB1.out hb2 HB1.out.size
  have CW := wstr_walk w.heap.size w.heap.size [] [0] w2 (bld_on HZ1.out hb2) (by simp) (by simp) (by simp) hB2.size
  have HB2 := Lib.hid hB2
  clear CP hb2 hB2
  go_wp2_with fail
  refine CW.mono ?_
  rintro e w3 ⟨⟨q, rfl⟩, hbld, hb3⟩
  have hB3 := HB2.out.trans hb3
  have HB3 := Lib.hid hB3
  have CS := bstring_walk w.heap.size w.heap.size ([] ++ [0]) w3 hbld hB3.size
  have HS3 := Lib.hid hB3.size
  clear CW hbld hb3 hB3
  go_wp2
  go_loopw [15] (fun i wr => i = .int .i64 0 ∧ wr = w3) (fun _ _ => 0)
  case atStart => exact ⟨rfl, rfl⟩
  case round =>
    obtain ⟨rfl, rfl⟩ := hrel
    go_wp2_with fail
    refine CS.mono ?_
    rintro e w4 ⟨rfl, hb4⟩
    go_wp2
    go_ret
    exact ⟨rfl, HB3.out.trans hb4⟩
theorem pconv1 (c : Nat) (b : UInt8) (W : World) (g : Nat) (h : W.cell? ⟨g, 0, none⟩ = some (.int .u8 (b.toNat : Int))) : (convert 54 9 (.slice (some ⟨g, 0, none⟩) 1 c)).run Tryz.prog W = .ok (.string ⟨#[b]⟩) W := by
  refine run_convert_bytes_back W _ _ 5 _ _ [b] Tryz.underlying54 Tryz.underlying5 Tryz.underlying9 fun j hj => ?_
  obtain rfl : j = 0 := by simp at hj; omega
  simpa [Addr.add] using h

set_option maxHeartbeats 4000000 in
set_option maxRecDepth 100000 in
theorem pwr_one (w : World) :
    Calls Tryz.prog 10 #[NodV ⟨1, [97], [], []⟩ (.slice none 0 0) (.slice none 0 0)] w fun e w' => e = .returned (S [1, 97]) ∧ Below w.heap.size w w' := by
  obtain ⟨w1, hw1, hB1, hz⟩ : ∃ w1, w1 = w.alloc (.cells #[.int .i64 1, S [97], .slice none 0 0, .slice none 0 0] 25) ∧ Below w.heap.size w w1 ∧ w1.heap[w.heap.size]? = some (.cells #[.int .i64 1, S [97], .slice none 0 0, .slice none 0 0] 25 (0, 0)) :=
    ⟨_, rfl, (Below.refl _ _).alloc (Nat.le_refl _) _, heap_alloc_new _ _⟩
  have CF := pfit11_walk (.slice none 0 0) (.slice none 0 0) ⟨1, [97], [], []⟩ w1 ⟨Row.nil _ _, Row.nil _ _⟩ (by simp) (by simp) (by simp) (by simp)
  rw [fitN_iff.2 (show FitN ⟨1, [97], [], []⟩ from .inl ⟨rfl, by simp, by simp, rfl, rfl⟩)] at CF
  obtain ⟨⟨z0, z1, z2, z3⟩, -, -⟩ := box4 hz
  go_enter Tryz.func10, Tryz.ntmps10
  go_upto_region 1 with fail
  rw [← hw1]
  clear hw1
  go_wp2_with fail
  refine CF.mono ?_
  rintro e w2 ⟨rfl, hb2⟩
  have hz2 := (hb2.block _ (heap_lt hz)).trans hz
  have hB2 := below_chain hB1 hb2 hB1.size
  clear CF hz hB1 hb2 z0 z1 z2 z3
  obtain ⟨w3, hw3, hz3, hB3, hc3⟩ : ∃ w3, w3 = w2.alloc (.cells #[.int .u8 1] 5) ∧ w3.heap[w.heap.size]? = some (.cells #[.int .i64 1, S [97], .slice none 0 0, .slice none 0 0] 25 (0, 0)) ∧ Below w.heap.size w w3 ∧ w3.cell? ⟨w2.heap.size, 0, none⟩ = some (.int .u8 1) :=
    ⟨_, rfl, (((Below.refl _ _).alloc (Nat.le_refl _) _).block _ (heap_lt hz2)).trans hz2, hB2.alloc hB2.size _, cell_new _ _ _ _ rfl⟩
  have hcv := pconv1 1 (1 : UInt8) w3 w2.heap.size hc3
  obtain ⟨⟨z0, z1, z2, z3⟩, -, -⟩ := box4 hz2
  obtain ⟨⟨y0, y1, y2, y3⟩, -, -⟩ := box4 hz3
  have z0a := fun o => cell_old z0 o
  have hcat : (⟨#[1]⟩ : ByteArray) ++ (⟨#[97]⟩ : ByteArray) = ⟨#[1, 97]⟩ := rfl
  go_upto_region 4 with fail
  rw [← hw3, hcv]
  clear hw3 hcv z0a z0 z1 z2 z3
  simp only [Result.andThen]
  rw [Oper.upon_value]
  go_wp2
  go_ret
  exact ⟨rfl, hB3⟩

set_option maxHeartbeats 4000000 in
set_option maxRecDepth 100000 in
theorem pwr_two (w : World) :
    Calls Tryz.prog 10 #[NodV ⟨2, [], [], []⟩ (.slice none 0 0) (.slice none 0 0)] w fun e w' => e = .returned (S [2, 0]) ∧ Below w.heap.size w w' := by
  obtain ⟨w1, hw1, hB1, hz⟩ : ∃ w1, w1 = w.alloc (.cells #[.int .i64 2, S [], .slice none 0 0, .slice none 0 0] 25) ∧ Below w.heap.size w w1 ∧ w1.heap[w.heap.size]? = some (.cells #[.int .i64 2, S [], .slice none 0 0, .slice none 0 0] 25 (0, 0)) :=
    ⟨_, rfl, (Below.refl _ _).alloc (Nat.le_refl _) _, heap_alloc_new _ _⟩
  have CF := pfit11_walk (.slice none 0 0) (.slice none 0 0) ⟨2, [], [], []⟩ w1 ⟨Row.nil _ _, Row.nil _ _⟩ (by simp) (by simp) (by simp) (by simp)
  rw [fitN_iff.2 (show FitN ⟨2, [], [], []⟩ from .inr (.inl ⟨rfl, rfl, rfl, ⟨by simp, by simp, by simp [wholeP]⟩⟩))] at CF
  obtain ⟨⟨z0, z1, z2, z3⟩, -, -⟩ := box4 hz
  go_enter Tryz.func10, Tryz.ntmps10
  go_upto_region 1 with fail
  rw [← hw1]
  clear hw1
  go_wp2_with fail
  refine CF.mono ?_
  rintro e w2 ⟨rfl, hb2⟩
  have hz2 := (hb2.block _ (heap_lt hz)).trans hz
  have hB2 := below_chain hB1 hb2 hB1.size
  clear CF hz hB1 hb2 z0 z1 z2 z3
  obtain ⟨w3, hw3, hz3, hB3, hc3⟩ : ∃ w3, w3 = w2.alloc (.cells #[.int .u8 2] 5) ∧ w3.heap[w.heap.size]? = some (.cells #[.int .i64 2, S [], .slice none 0 0, .slice none 0 0] 25 (0, 0)) ∧ Below w.heap.size w w3 ∧ w3.cell? ⟨w2.heap.size, 0, none⟩ = some (.int .u8 2) :=
    ⟨_, rfl, (((Below.refl _ _).alloc (Nat.le_refl _) _).block _ (heap_lt hz2)).trans hz2, hB2.alloc hB2.size _, cell_new _ _ _ _ rfl⟩
  have hcv := pconv1 1 (2 : UInt8) w3 w2.heap.size hc3
  obtain ⟨⟨z0, z1, z2, z3⟩, -, -⟩ := box4 hz2
  obtain ⟨⟨y0, y1, y2, y3⟩, -, -⟩ := box4 hz3
  have z0a := fun o => cell_old z0 o
  have hcat : (⟨#[2]⟩ : ByteArray) ++ (⟨#[0]⟩ : ByteArray) = ⟨#[2, 0]⟩ := rfl
  have CL := fun fv => list0_walk fv w3
  go_upto_region 4 with fail
  rw [← hw3, hcv]
  clear hw3 hcv z0a z0 z1 z2 z3
  simp only [Result.andThen]
  rw [Oper.upon_value]
  go_wp2_with (go_at_call 26; refine (CL _).mono ?_; rintro e w4 ⟨rfl, hb4⟩)
  go_ret
  exact ⟨rfl, below_chain hB3 hb4 hB3.size⟩
end Go.Proofs.YtnnjgokaabaaoaaGreatDoor
