/- The bytes and the key of a directory of no entries. -/
import Derived.Test.YtffdcnhpjgpcdaaGreatDoorNodeB
import Derived.Test.YtffdcnhpjgpcdaaGreatDoorIdxEnt
import Derived.Test.YtffdcnhpjgpcdaaGreatDoorBldS
import Derived.Test.YtffdcnhpjgpcdaaGreatDoorPVar
import Derived.Test.YtffdcnhpjgpcdaaGreatDoorJPSha
import Derived.Test.YtffdcnhpjgpcdaaGreatDoorJTail
namespace Go.Proofs.YtffdcnhpjgpcdaaGreatDoor
open Go.RowKit

/-- A directory of no entries, as a value; its bytes. -/
abbrev N0V : Value := .agg #[.int .i64 3, .string ⟨#[]⟩, .slice none 0 0, .slice none 0 0]
abbrev raw0 : List UInt8 := [3, 0]
theorem bld_on0 {B b : Nat} {l : List UInt8} {w w' : World} (h : IsBld B b l w) (hb : Below w.heap.size w w') : IsBld B b l w' := by
  rcases h with ⟨hB, v, hbk, hown, hne⟩ | ⟨hB, v, hbk, hown, hne⟩
  · exact .inl ⟨hB, v, (hb.block b (heap_lt hbk)).trans hbk, own_on hown hb, hne⟩
  · exact .inr ⟨hB, v, (hb.block b (heap_lt hbk)).trans hbk, own_on hown hb, hne⟩

theorem pconv0 (c : Nat) (b : UInt8) (W : World) (g : Nat) (h : W.cell? ⟨g, 0, none⟩ = some (.int .u8 (b.toNat : Int))) : (convert 90 9 (.slice (some ⟨g, 0, none⟩) 1 c)).run Tryz.prog W = .ok (.string ⟨#[b]⟩) W := by
  refine run_convert_bytes_back W _ _ 5 _ _ [b] Tryz.underlying90 Tryz.underlying5 Tryz.underlying9 fun j hj => ?_
  obtain rfl : j = 0 := by simp at hj; omega
  simpa [Addr.add] using h

set_option maxHeartbeats 1000000 in
theorem rises0_walk (w : World) : Calls Tryz.prog 75 #[.slice none 0 0] w fun e w' => e = .returned (.bool true) ∧ Below w.heap.size w w' := by
  go_enter Tryz.func75, Tryz.ntmps75
  go_wp2
  go_loopw [3] (fun i wr => i = .int .i64 1 ∧ wr = w) (fun i _ => 0)
  case atStart => exact ⟨rfl, rfl⟩
  case round =>
    obtain ⟨rfl, rfl⟩ := hrel
    go_wp2
    go_ret
    exact ⟨rfl, Below.refl _ _⟩

set_option maxHeartbeats 4000000 in
set_option maxRecDepth 100000 in
theorem nfit0_walk (w : World) : Calls Tryz.prog 55 #[N0V] w fun e w' => e = .returned (.bool true) ∧ Below w.heap.size w w' := by
  obtain ⟨w1, hw1, hB1, hz⟩ : ∃ w1, w1 = w.alloc (.cells #[.int .i64 3, .string ⟨#[]⟩, .slice none 0 0, .slice none 0 0] 57) ∧ Below w.heap.size w w1 ∧ w1.heap[w.heap.size]? = some (.cells #[.int .i64 3, .string ⟨#[]⟩, .slice none 0 0, .slice none 0 0] 57 (0, 0)) :=
    ⟨_, rfl, (Below.refl _ _).alloc (Nat.le_refl _) _, heap_alloc_new _ _⟩
  obtain ⟨⟨z0, z1, z2, z3⟩, -, -⟩ := box4 hz
  go_enter Tryz.func55, Tryz.ntmps55
  go_upto_region 1 with fail
  rw [← hw1]
  clear hw1
  go_quiet (fail)
  have hB2 := belowN hB1 nq
  have hz2 := (belowN (Below.refl w1.heap.size w1) nq).block _ (heap_lt hz) |>.trans hz
  clear z0 z1 z2 z3
  generalize w1.drewN nq = w2 at *
  obtain ⟨⟨z0, z1, z2, z3⟩, -, -⟩ := box4 hz2
  have CH := hasEnt_walk 74 #[] (fun _ => false) (.slice none 0 0) [] w2 (Row.nil _ _) (by simp) (enters_of Tryz.func74 (by kernel_rfl) rfl) (fun x hx => by cases hx)
  go_wp2_with fail
  refine CH.mono ?_
  rintro e w3 ⟨rfl, hb3⟩
  have hB3 := below_chain hB2 hb3 hB2.size
  have hz3 := (hb3.block _ (heap_lt hz2)).trans hz2
  clear CH z0 z1 z2 z3
  obtain ⟨⟨z0, z1, z2, z3⟩, -, -⟩ := box4 hz3
  have CR := rises0_walk w3
  go_wp2_with fail
  refine CR.mono ?_
  rintro e w4 ⟨rfl, hb4⟩
  have hB4 := below_chain hB3 hb4 hB3.size
  clear CR z0 z1 z2 z3
  go_wp2
  go_ret
  exact ⟨rfl, hB4⟩

set_option maxHeartbeats 4000000 in
set_option maxRecDepth 100000 in
theorem nlist0_walk (w : World) : Calls Tryz.prog 59 #[.slice none 0 0, .func (.func 60) #[] #[]] w fun e w' => e = .returned (S [0]) ∧ Below w.heap.size w w' := by
  have hfr := Lib.fresh_isBuilder 114 5 w
  obtain ⟨w1, hw1, hb1, hz1⟩ : ∃ w1, w1 = w.alloc (.cells #[.pointer none, .slice none 0 0] 114) ∧ Below w.heap.size w w1 ∧ IsBld w.heap.size w.heap.size [] w1 :=
    ⟨_, rfl, (Below.refl _ _).alloc (Nat.le_refl _) _, hfr⟩
  have CP := pput_walk 0 w1 (by omega)
  rw [show putV 0 = [0] from by rw [putV_small (by omega)]; rfl] at CP
  have HB1 := Lib.hid hb1
  have HZ1 := Lib.hid hz1
  have hlw : IntKind.u64.wrap (0 : Int) = 0 := by decide
  clear hfr hb1 hz1
  go_enter Tryz.func59, Tryz.ntmps59
  go_upto_region 2 with fail
  rw [← hw1]
  clear hw1
  go_wp2_with fail
  refine CP.mono ?_
  rintro e w2 ⟨rfl, hb2⟩
  have HB2 := Lib.hid (below_chain HB1.out hb2 HB1.out.size)
  have CW := wstr_walk w.heap.size w.heap.size [] [0] w2 (bld_on0 HZ1.out hb2) (by simp) (by simp) (by simp) HB2.out.size
  clear CP hb2
  go_wp2_with fail
  refine CW.mono ?_
  rintro e w3 ⟨⟨nq, rfl⟩, hbld, hb3⟩
  have HB3 := Lib.hid (HB2.out.trans hb3)
  have HBL3 : Hid (IsBld w.heap.size w.heap.size [0] w3) := Lib.hid (by simpa using hbld)
  clear CW hbld hb3
  go_wp2
  go_loopw [15] (fun i wr => i = .int .i64 0 ∧ wr = w3) (fun i _ => 0)
  case atStart => exact ⟨rfl, rfl⟩
  case round =>
    obtain ⟨rfl, rfl⟩ := hrel
    have CS := bstring_walk w.heap.size w.heap.size _ wr HBL3.out HB3.out.size
    go_wp2_with fail
    refine CS.mono ?_
    rintro e w4 ⟨rfl, hb4⟩
    have HB4 := Lib.hid (HB3.out.trans hb4)
    clear hb4 CS
    go_wp2
    go_ret
    exact ⟨rfl, HB4.out⟩

set_option maxHeartbeats 4000000 in
set_option maxRecDepth 100000 in
theorem nwrite0_walk (w : World) : Calls Tryz.prog 41 #[N0V] w fun e w' => e = .returned (S raw0) ∧ Below w.heap.size w w' := by
  obtain ⟨w1, hw1, hB1, hz⟩ : ∃ w1, w1 = w.alloc (.cells #[.int .i64 3, .string ⟨#[]⟩, .slice none 0 0, .slice none 0 0] 57) ∧ Below w.heap.size w w1 ∧ w1.heap[w.heap.size]? = some (.cells #[.int .i64 3, .string ⟨#[]⟩, .slice none 0 0, .slice none 0 0] 57 (0, 0)) :=
    ⟨_, rfl, (Below.refl _ _).alloc (Nat.le_refl _) _, heap_alloc_new _ _⟩
  obtain ⟨⟨z0, z1, z2, z3⟩, -, -⟩ := box4 hz
  have CF := nfit0_walk w1
  go_enter Tryz.func41, Tryz.ntmps41
  go_upto_region 1 with fail
  rw [← hw1]
  clear hw1
  go_wp2_with fail
  refine CF.mono ?_
  rintro e w2 ⟨rfl, hb2⟩
  have hB2 := below_chain hB1 hb2 hB1.size
  have hz2 := (hb2.block _ (heap_lt hz)).trans hz
  clear CF z0 z1 z2 z3
  obtain ⟨⟨z0, z1, z2, z3⟩, -, -⟩ := box4 hz2
  obtain ⟨w3, hw3, hz3, hB3, hc3⟩ : ∃ w3, w3 = w2.alloc (.cells #[.int .u8 (((3 : UInt8).toNat : Nat) : Int)] 5) ∧ w3.heap[w.heap.size]? = some (.cells #[.int .i64 3, .string ⟨#[]⟩, .slice none 0 0, .slice none 0 0] 57 (0, 0)) ∧ Below w.heap.size w w3 ∧ w3.cell? ⟨w2.heap.size, 0, none⟩ = some (.int .u8 (((3 : UInt8).toNat : Nat) : Int)) :=
    ⟨_, rfl, (((Below.refl _ _).alloc (Nat.le_refl _) _).block _ (heap_lt hz2)).trans hz2, hB2.alloc hB2.size _, cell_new _ _ _ _ rfl⟩
  have hcv := pconv0 1 3 w3 w2.heap.size hc3
  have CL := nlist0_walk w3
  obtain ⟨⟨y0, y1, y2, y3⟩, -, -⟩ := box4 hz3
  have hwr3 : IntKind.u8.wrap (3 : Int) = 3 := by decide
  go_upto_region 4 with fail
  rw [show (w2.alloc (.cells #[.int .u8 3] 5)) = w3 from hw3.symm, hcv]
  clear hw3 hcv z0 z1 z2 z3 hz2 hB2
  simp only [Result.andThen]
  rw [Oper.upon_value]
  have HB3 := Lib.hid hB3
  clear hB3 hz3
  go_wp2_with fail
  refine CL.mono ?_
  rintro e w4 ⟨rfl, hb4⟩
  have HB4 := Lib.hid (HB3.out.trans (hb4.mono HB3.out.size))
  have hcat : (⟨#[3]⟩ : ByteArray) ++ (⟨#[0]⟩ : ByteArray) = ⟨#[3, 0]⟩ := by rfl
  clear CL hb4 y0 y1 y2 y3
  go_wp2
  go_ret
  exact ⟨rfl, HB4.out⟩

set_option maxHeartbeats 4000000 in
set_option maxRecDepth 100000 in
theorem nkey0_walk (w : World) : Calls Tryz.prog 40 #[N0V] w fun e w' => e = .returned (S (shaF raw0)) ∧ Below w.heap.size w w' := by
  obtain ⟨w1, hw1, hB1, hz⟩ : ∃ w1, w1 = w.alloc (.cells #[.int .i64 3, .string ⟨#[]⟩, .slice none 0 0, .slice none 0 0] 57) ∧ Below w.heap.size w w1 ∧ w1.heap[w.heap.size]? = some (.cells #[.int .i64 3, .string ⟨#[]⟩, .slice none 0 0, .slice none 0 0] 57 (0, 0)) :=
    ⟨_, rfl, (Below.refl _ _).alloc (Nat.le_refl _) _, heap_alloc_new _ _⟩
  obtain ⟨⟨z0, z1, z2, z3⟩, -, -⟩ := box4 hz
  have CF := nfit0_walk w1
  obtain ⟨kk, hkk⟩ : ∃ kk, shaF raw0 = kk := ⟨_, rfl⟩
  have CSS := fun W => psha_walk raw0 W (by simp)
  rw [hkk] at CSS ⊢
  clear hkk
  go_enter Tryz.func40, Tryz.ntmps40
  go_upto_region 1 with fail
  rw [← hw1]
  clear hw1
  go_wp2_with fail
  refine CF.mono ?_
  rintro e w2 ⟨rfl, hb2⟩
  have hB2 := below_chain hB1 hb2 hB1.size
  have hz2 := (hb2.block _ (heap_lt hz)).trans hz
  clear CF z0 z1 z2 z3
  obtain ⟨⟨z0, z1, z2, z3⟩, -, -⟩ := box4 hz2
  have CW := nwrite0_walk w2
  go_wp2_with fail
  refine CW.mono ?_
  rintro e w3 ⟨rfl, hb3⟩
  have hB3 := below_chain hB2 hb3 hB2.size
  have CS := CSS w3
  clear CW z0 z1 z2 z3
  go_wp2_with fail
  refine CS.mono ?_
  rintro e w4 ⟨rfl, hb4⟩
  have hB4 := below_chain hB3 hb4 hB3.size
  clear CS
  go_wp2
  go_ret
  exact ⟨rfl, hB4⟩
end Go.Proofs.YtffdcnhpjgpcdaaGreatDoor
