/- The program's numbers as bytes: Put, PutText. -/
import Derived.Test.YtffdcnhpjgpcdaaGreatDoorBld
import Derived.Test.YtffdcnhpjgpcdaaGreatDoorSApp
namespace Go.Proofs.YtffdcnhpjgpcdaaGreatDoor
open Go.RowKit

theorem or128' : ∀ x : Fin 256, bits BinOp.or IntKind.u8 ((x.val : Nat) : Int) 128 = ((x.val % 128 + 128 : Nat) : Int) := by decide +kernel
theorem or128 (k : Nat) : bits BinOp.or IntKind.u8 ((k : Int) % 256) 128 = ((k % 128 + 128 : Nat) : Int) := by
  have := or128' ⟨k % 256, Nat.mod_lt _ (by decide)⟩
  simp only [] at this
  rw [show ((k : Int) % 256) = ((k % 256 : Nat) : Int) by omega, this]
  omega

set_option maxHeartbeats 1100000 in
set_option maxRecDepth 100000 in
theorem pput_walk (n0 : Nat) (w : World) (hn0 : n0 < 2 ^ 64) :
    Calls Tryz.prog 78 #[.int .u64 n0] w fun e w' => e = .returned (S (putV n0)) ∧ Below w.heap.size w w' := by
  have hfr := Lib.fresh_isBuilder 114 5 w
  go_enter Tryz.func78, Tryz.ntmps78
  go_wp2
  go_loopw [0] (fun n wr => ∃ (k : Nat) (out : List UInt8), n = .int .u64 k ∧ out.length ≤ 9 ∧ k < 2 ^ (64 - 7 * out.length) ∧ putV n0 = out ++ putV k ∧ IsBld w.heap.size w.heap.size out wr ∧ Below w.heap.size w wr) (fun n _ => (intOf n).toNat)
  case atStart => exact ⟨n0, [], rfl, by simp, by simpa using hn0, rfl, hfr, (Below.refl _ _).alloc (Nat.le_refl _) _⟩
  case round =>
    obtain ⟨k, out, rfl, hol, hk, hp, hbld, hB⟩ := hrel
    have HP := Lib.hid hp
    have hsz := hB.size
    have hk64 := putV_word hol hk
    have HK := Lib.hid hk
    clear hk
    by_cases h1 : k < 128
    · have h1' : ¬ (127 : Int) < (k : Int) := by omega
      have HL := Lib.hid (putV_last hp h1)
      clear hp
      go_wp2_with fail
      refine (wbyte_walk w.heap.size w.heap.size out (UInt8.ofNat k) k wr (by simp; omega) hbld (by omega) hsz).mono ?_
      rintro e w1 ⟨rfl, hb1, hbb⟩
      have hB1 := hB.trans hbb
      go_wp2_with fail
      refine (bstring_walk w.heap.size w.heap.size _ w1 hb1 hB1.size).mono ?_
      rintro e w2 ⟨rfl, hb2⟩
      go_wp2
      go_ret
      exact ⟨by rw [HL.out]; rfl, hB1.trans hb2⟩
    · have h1' : (127 : Int) < (k : Int) := by omega
      have HL := Lib.hid (putV_step hp h1)
      obtain ⟨hr1, hr2⟩ := putV_room hol HK.out (by omega)
      clear hp
      go_wp2_with fail
      refine (wbyte_walk w.heap.size w.heap.size out (UInt8.ofNat (k % 128 + 128)) _ wr (by rw [or128]; simp; omega) hbld (by omega) hsz).mono ?_
      rintro e w1 ⟨rfl, hb1, hbb⟩
      have hB1 := hB.trans hbb
      go_wp2
      go_roundw
      case rel => exact ⟨k / 128, _, by go_num, by simp; omega, by simpa using hr2, HL.out, hb1, hB1⟩
      case measure => simp [intOf]; omega

set_option maxHeartbeats 1100000 in
set_option maxRecDepth 100000 in
theorem pputtext_walk (l : List UInt8) (w : World) (hl : l.length ≤ 1100000) :
    Calls Tryz.prog 80 #[S l] w fun e w' => e = .returned (S (putText l)) ∧ Below w.heap.size w w' := by
  have HT := Lib.hid (show putText l = if 65536 < l.length then [] else putV l.length ++ l from rfl)
  generalize putText l = tt at *
  by_cases h : 65536 < l.length
  · have h' : (65536 : Int) < (l.length : Int) := by omega
    have HT1 := Lib.hid (HT.out.trans (if_pos h))
    go_enter Tryz.func80, Tryz.ntmps80
    go_wp2
    go_ret
    exact ⟨by rw [HT1.out]; rfl, Below.refl _ _⟩
  · have h' : ¬ (65536 : Int) < (l.length : Int) := by omega
    have HT1 := Lib.hid (HT.out.trans (if_neg h))
    go_enter Tryz.func80, Tryz.ntmps80
    go_wp2_with fail
    refine (pput_walk l.length w (by omega)).mono ?_
    rintro e w1 ⟨rfl, hb⟩
    have hpl := putV_len (n := l.length) (by omega)
    have hns : ¬ 9223372036854775807 < (putV l.length).length + l.length := by omega
    go_wp2
    go_ret
    exact ⟨by rw [HT1.out, ← S_app]; rfl, hb⟩
end Go.Proofs.YtffdcnhpjgpcdaaGreatDoor
