/- Few objects, of few bytes, that are fit. Texts, one behind the other. The reference's numbers written as bytes. -/
import Derived.Test.YtocommjoncchpaaGreatDoorJDiskPlain
import Derived.Test.YtocommjoncchpaaGreatDoorJKeysOf
import Derived.Test.YtocommjoncchpaaGreatDoorJAny
import Derived.Test.YtocommjoncchpaaGreatDoorJFetchD
import Derived.Test.YtocommjoncchpaaGreatDoorJRange2
namespace Go.Proofs.YtocommjoncchpaaGreatDoor
open Go.RowKit

set_option maxHeartbeats 4000000 in
set_option maxRecDepth 100000 in
theorem small13_walk (v : Value) (l : List Snp) (w : World) (hr : SnpRow w v l) (hlm : l.length ≤ 140737488355328) (hrl : ∀ x ∈ l, x.2.length ≤ 140737488355328) :
    Calls Tryz.prog 5 #[v] w (SmallPost l w) := by
  have HR := Lib.hid hr
  have HRL := Lib.hid hrl
  have HNO := Lib.hid (fun (w' : World) (hB : Below w.heap.size w w') => show SmallPost l w (.returned (.bool false)) w' from ⟨false, rfl, (fun h => by cases h), hB⟩)
  obtain ⟨a, c, rfl, hc, hm, hx⟩ := hr
  have HX := Lib.hid hx
  clear hx hrl
  by_cases h120 : 120 < l.length
  · have h1' : (120 : Int) < (l.length : Int) := by omega
    go_enter Tryz.func5, Tryz.ntmps5
    go_wp2
    go_ret
    exact HNO.out _ (Below.refl _ _)
  have h1' : ¬ (120 : Int) < (l.length : Int) := by omega
  have hlen : l.length ≤ 120 := by omega
  have HLEN := Lib.hid hlen
  go_enter Tryz.func5, Tryz.ntmps5
  go_wp2
  go_loopw [3, 11] (fun t i wr => ∃ k tot : Nat, k ≤ l.length ∧ i = .int .i64 k ∧ t = .int .i64 tot ∧ tot ≤ 20000 ∧ tot = rawsL (l.take k) ∧ (∀ x ∈ l.take k, x.2.length ≤ 20000) ∧ Below w.heap.size w wr) (fun _ i _ => l.length - (intOf i).toNat)
  case atStart => exact ⟨0, 0, Nat.zero_le _, rfl, rfl, by omega, by simp [rawsL], by simp, Below.refl _ _⟩
  case round =>
    obtain ⟨k, tot, hk, rfl, rfl, ht, hsum, hall, hB⟩ := hrel
    have HSUM := Lib.hid hsum
    clear hsum
    have HB := Lib.hid hB
    have HALL := Lib.hid hall
    clear hall
    by_cases h2 : k < l.length
    · have h2' : (k : Int) < (l.length : Int) := by omega
      have hx := HX.out
      rcases hx with hx | ⟨b, o, rfl, hx⟩
      · exfalso; rw [hx] at h2; simp at h2
      obtain ⟨hx1, hx2⟩ := snp_cells hx h2
      have hc1 := cell_below hB hx1
      have hc2 := cell_below hB hx2
      have HTK := Lib.hid (List.take_succ_eq_append_getElem h2)
      have hql := HRL.out l[k] (by simp)
      have HSS := Lib.hid (rawsL_step h2)
      clear hx hx1 hx2 hB
      generalize l[k] = y at *
      obtain ⟨p, q⟩ := y
      simp only at hql
      have hw0 : IntKind.i64.wrap ((tot : Int) + (q.length : Int)) = (tot : Int) + (q.length : Int) := by rw [IntKind.wrap_i64]; omega
      by_cases h3 : 20000 < tot + q.length
      · have h3' : (20000 : Int) < (tot : Int) + (q.length : Int) := by omega
        go_wp2
        go_ret
        exact HNO.out _ (HB.out.alloc HB.out.size _)
      have h3' : ¬ (20000 : Int) < (tot : Int) + (q.length : Int) := by omega
      by_cases h4 : 100 < p.length
      · have h4' : (100 : Int) < (p.length : Int) := by omega
        go_wp2
        go_ret
        exact HNO.out _ (HB.out.alloc HB.out.size _)
      have h4' : ¬ (100 : Int) < (p.length : Int) := by omega
      have HQ := Lib.hid (show q.length ≤ 20000 by omega)
      have HT := Lib.hid (show tot + q.length ≤ 20000 by omega)
      clear h3 h4
      go_wp2
      go_roundw
      case rel =>
        refine ⟨k + 1, tot + q.length, by omega, by go_num, by simp, HT.out, by rw [HSS.out, HSUM.out], ?_, HB.out.alloc HB.out.size _⟩
        rw [HTK.out]
        intro x hx
        rcases List.mem_append.1 hx with hx | hx
        · exact HALL.out x hx
        · rw [List.mem_singleton.1 hx]; exact HQ.out
      case measure => simp [intOf]; omega
    · have h2' : ¬ (k : Int) < (l.length : Int) := by omega
      have CF := rfitO_walk (.slice a l.length c) l wr (HR.out.below hB) (by omega)
      obtain ⟨f, hf⟩ : ∃ f, fit5 (namesR l) = f := ⟨_, rfl⟩
      rw [hf] at CF
      have HP := Lib.hid (fun (w' : World) (hB' : Below w.heap.size w w') => show SmallPost l w (.returned (.bool f)) w' from ⟨f, rfl, (fun h => ⟨HLEN.out, by have := HALL.out; rwa [List.take_of_length_le (by omega)] at this, by rw [hf, h], by have h7 := HSUM.out; rw [List.take_of_length_le (by omega)] at h7; omega⟩), hB'⟩)
      clear hf hB
      go_wp2_with fail
      refine CF.mono ?_
      rintro e w2 ⟨rfl, hb2⟩
      have hB2 := below_chain HB.out hb2 HB.out.size
      go_wp2
      go_ret
      exact HP.out _ hB2
end Go.Proofs.YtocommjoncchpaaGreatDoor

namespace Go.Proofs.YtocommjoncchpaaGreatDoor
open Go.RowKit

theorem S_app (a b : List UInt8) : Value.string (({ data := a.toArray } : ByteArray) ++ ({ data := b.toArray } : ByteArray)) = S (a ++ b) := by
  congr 1
end Go.Proofs.YtocommjoncchpaaGreatDoor

namespace Go.Proofs.YtocommjoncchpaaGreatDoor
open Go.RowKit

set_option maxHeartbeats 1100000 in
set_option maxRecDepth 100000 in
theorem r01put_walk (n0 : Nat) (w : World) (hn0 : n0 < 2 ^ 64) :
    Calls Tryz.prog 102 #[.int .u64 n0] w fun e w' => e = .returned (S (putV n0)) ∧ Below w.heap.size w w' := by
  obtain ⟨i0, hi, hz0, hz1, hz2⟩ := info_parts infoByte
  go_enter Tryz.func102, Tryz.ntmps102
  go_wp2
  go_loopw [0, 3] (fun n v wr => ∃ (k : Nat) (out : List UInt8), n = .int .u64 k ∧ out.length ≤ 9 ∧ k < 2 ^ (64 - 7 * out.length) ∧ putV n0 = out ++ putV k ∧ wr.ownsRow w.heap.size 5 1 v out.length (Lib.byteCells out) ∧ Below w.heap.size w wr) (fun n _ _ => (intOf n).toNat)
  case atStart => exact ⟨n0, [], rfl, by simp, by simpa using hn0, rfl, World.ownsRow_nil _ _ _ _, Below.refl _ _⟩
  case round =>
    obtain ⟨k, out, rfl, hol, hk, hp, hown, hB⟩ := hrel
    have HP := Lib.hid hp
    have hsz := hB.size
    have hk64 := putV_word hol hk
    by_cases h1 : k < 128
    · have h1' : ¬ (128 : Int) ≤ (k : Int) := by omega
      have HL := Lib.hid (putV_last hp h1)
      clear hp
      go_wp2_with (at_builtin; refine wpList_append_own _ rfl _ _ 136 rfl w.heap.size 5 i0 (.int .u8 0) 1 1 Tryz.underlying136 hi hz0 hz1 hz2 rfl (by decide) _ _ _ rfl (hown.alloc _) ⟨wr.heap.size, 0, none⟩ 1 1 [.int .u8 (k : Int)] rfl rfl (new_cell _ _ _) (by intro u hu; simp at hu; subst hu; rfl) (by unfold maxLen; omega) (by omega) (by simp; omega) ?_)
      intro v' w1 hown' hgrow _
      have hB1 : Below w.heap.size w w1 := (hB.alloc hsz _).grown hgrow (by simp; omega) (fun j hj => (hown.lt j hj).1)
      clear hgrow hown hB
      have hbk := bytes_back (l := out ++ [UInt8.ofNat k]) (by
        have e : Lib.byteCells (out ++ [UInt8.ofNat k]) = Lib.byteCells out ++ [.int .u8 (k : Int)] := by
          simp [Lib.byteCells]; omega
        rw [e]
        simpa using hown')
      clear hown'
      go_wp2
      go_ret
      exact ⟨by rw [HL.out]; rfl, hB1⟩
    · have h1' : (128 : Int) ≤ (k : Int) := by omega
      have HL := Lib.hid (putV_step hp h1)
      obtain ⟨hr1, hr2⟩ := putV_room hol hk (by omega)
      clear hp
      go_wp2_with (at_builtin; refine wpList_append_own _ rfl _ _ 136 rfl w.heap.size 5 i0 (.int .u8 0) 1 1 Tryz.underlying136 hi hz0 hz1 hz2 rfl (by decide) _ _ _ rfl (hown.alloc _) ⟨wr.heap.size, 0, none⟩ 1 1 [.int .u8 ((k : Int) % 128 + 128)] rfl rfl (new_cell _ _ _) (by intro u hu; simp at hu; subst hu; rfl) (by unfold maxLen; omega) (by omega) (by simp; omega) ?_)
      intro v' w1 hown' hgrow _
      have hB1 : Below w.heap.size w w1 := (hB.alloc hsz _).grown hgrow (by simp; omega) (fun j hj => (hown.lt j hj).1)
      clear hgrow hown hB
      have hown2 : w1.ownsRow w.heap.size 5 1 v' (out ++ [UInt8.ofNat (k % 128 + 128)]).length (Lib.byteCells (out ++ [UInt8.ofNat (k % 128 + 128)])) := by
        have e : Lib.byteCells (out ++ [UInt8.ofNat (k % 128 + 128)]) = Lib.byteCells out ++ [.int .u8 ((k : Int) % 128 + 128)] := by
          simp [Lib.byteCells]; omega
        rw [e]
        simpa using hown'
      clear hown'
      go_wp2
      go_roundw
      case rel => exact ⟨k / 128, _, by go_num, by simp; omega, by simpa using hr2, HL.out, hown2, hB1⟩
      case measure => simp [intOf]; omega

set_option maxHeartbeats 1100000 in
set_option maxRecDepth 100000 in
theorem r01puttext_walk (l : List UInt8) (w : World) (hl : l.length ≤ 1100000) :
    Calls Tryz.prog 103 #[S l] w fun e w' => e = .returned (S (putText l)) ∧ Below w.heap.size w w' := by
  have HT := Lib.hid (show putText l = if 65536 < l.length then [] else putV l.length ++ l from rfl)
  generalize putText l = tt at *
  by_cases h : 65536 < l.length
  · have h' : (65536 : Int) < (l.length : Int) := by omega
    have HT1 := Lib.hid (HT.out.trans (if_pos h))
    go_enter Tryz.func103, Tryz.ntmps103
    go_wp2
    go_ret
    exact ⟨by rw [HT1.out]; rfl, Below.refl _ _⟩
  · have h' : ¬ (65536 : Int) < (l.length : Int) := by omega
    have HT1 := Lib.hid (HT.out.trans (if_neg h))
    go_enter Tryz.func103, Tryz.ntmps103
    go_wp2_with fail
    refine (r01put_walk l.length w (by omega)).mono ?_
    rintro e w1 ⟨rfl, hb⟩
    have hpl := putV_len (n := l.length) (by omega)
    have hns : ¬ 9223372036854775807 < (putV l.length).length + l.length := by omega
    go_wp2
    go_ret
    exact ⟨by rw [HT1.out, ← S_app]; rfl, hb⟩
end Go.Proofs.YtocommjoncchpaaGreatDoor
