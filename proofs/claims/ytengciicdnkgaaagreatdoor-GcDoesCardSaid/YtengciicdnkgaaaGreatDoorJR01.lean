/- The reference's numbers written as bytes. The reference's numbers as bytes. -/
import Derived.Test.YtengciicdnkgaaaGreatDoorCellsU
import Derived.Test.YtengciicdnkgaaaGreatDoorJVar
import Derived.Test.YtengciicdnkgaaaGreatDoorCellsB
namespace Go.Proofs.YtengciicdnkgaaaGreatDoor
open Go.RowKit

set_option maxHeartbeats 1100000 in
set_option maxRecDepth 100000 in
theorem r01put_walk (n0 : Nat) (w : World) (hn0 : n0 < 2 ^ 64) :
    Calls Tryz.prog 71 #[.int .u64 n0] w fun e w' => e = .returned (S (putV n0)) ∧ Below w.heap.size w w' := by
  obtain ⟨i0, hi, hz0, hz1, hz2⟩ := info_parts infoByte
  go_enter Tryz.func71, Tryz.ntmps71
  go_wp2
  go_loopw [0, 3] (fun n v wr => ∃ (k : Nat) (out : List UInt8), n = .int .u64 k ∧ out.length ≤ 9 ∧ k < 2 ^ (64 - 7 * out.length) ∧ putV n0 = out ++ putV k ∧ wr.ownsRow w.heap.size 5 1 v out.length (Lib.byteCells out) ∧ Below w.heap.size w wr) (fun n _ _ => (intOf n).toNat)
  case atStart => exact ⟨n0, [], rfl, by simp, by simpa using hn0, rfl, World.ownsRow_nil _ _ _ _, Below.refl _ _⟩
  case round =>
    obtain ⟨k, out, rfl, hol, hk, hp, hown, hB⟩ := hrel
    have HP := Lib.hid hp
    have hsz := hB.size
    have hk64 := putV_word hol hk
    by_cases h1 : k < 128
    · have h1' : ¬ (128 : Int) ≤ (k : Int) := by omega
      have HL := Lib.hid (putV_last hp h1)
      clear hp
      go_wp2_with (at_builtin; refine wpList_append_own _ rfl _ _ 107 rfl w.heap.size 5 i0 (.int .u8 0) 1 1 Tryz.underlying107 hi hz0 hz1 hz2 rfl (by decide) _ _ _ rfl (hown.alloc _) ⟨wr.heap.size, 0, none⟩ 1 1 [.int .u8 (k : Int)] rfl rfl (new_cell _ _ _) (by intro u hu; simp at hu; subst hu; rfl) (by unfold maxLen; omega) (by omega) (by simp; omega) ?_)
      intro v' w1 hown' hgrow _
      have hB1 : Below w.heap.size w w1 := (hB.alloc hsz _).grown hgrow (by simp; omega) (fun j hj => (hown.lt j hj).1)
      clear hgrow hown hB
      have hbk := bytes_back (l := out ++ [UInt8.ofNat k]) (by
        have e : Lib.byteCells (out ++ [UInt8.ofNat k]) = Lib.byteCells out ++ [.int .u8 (k : Int)] := by
          simp [Lib.byteCells]; omega
        rw [e]
        simpa using hown')
      clear hown'
      go_wp2
      go_ret
      exact ⟨by rw [HL.out]; rfl, hB1⟩
    · have h1' : (128 : Int) ≤ (k : Int) := by omega
      have HL := Lib.hid (putV_step hp h1)
      obtain ⟨hr1, hr2⟩ := putV_room hol hk (by omega)
      clear hp
      go_wp2_with (at_builtin; refine wpList_append_own _ rfl _ _ 107 rfl w.heap.size 5 i0 (.int .u8 0) 1 1 Tryz.underlying107 hi hz0 hz1 hz2 rfl (by decide) _ _ _ rfl (hown.alloc _) ⟨wr.heap.size, 0, none⟩ 1 1 [.int .u8 ((k : Int) % 128 + 128)] rfl rfl (new_cell _ _ _) (by intro u hu; simp at hu; subst hu; rfl) (by unfold maxLen; omega) (by omega) (by simp; omega) ?_)
      intro v' w1 hown' hgrow _
      have hB1 : Below w.heap.size w w1 := (hB.alloc hsz _).grown hgrow (by simp; omega) (fun j hj => (hown.lt j hj).1)
      clear hgrow hown hB
      have hown2 : w1.ownsRow w.heap.size 5 1 v' (out ++ [UInt8.ofNat (k % 128 + 128)]).length (Lib.byteCells (out ++ [UInt8.ofNat (k % 128 + 128)])) := by
        have e : Lib.byteCells (out ++ [UInt8.ofNat (k % 128 + 128)]) = Lib.byteCells out ++ [.int .u8 ((k : Int) % 128 + 128)] := by
          simp [Lib.byteCells]; omega
        rw [e]
        simpa using hown'
      clear hown'
      go_wp2
      go_roundw
      case rel => exact ⟨k / 128, _, by go_num, by simp; omega, by simpa using hr2, HL.out, hown2, hB1⟩
      case measure => simp [intOf]; omega

theorem S_app (a b : List UInt8) : Value.string (({ data := a.toArray } : ByteArray) ++ ({ data := b.toArray } : ByteArray)) = S (a ++ b) := by
  congr 1

set_option maxHeartbeats 1100000 in
set_option maxRecDepth 100000 in
theorem r01puttext_walk (l : List UInt8) (w : World) (hl : l.length ≤ 1100000) :
    Calls Tryz.prog 72 #[S l] w fun e w' => e = .returned (S (putText l)) ∧ Below w.heap.size w w' := by
  have HT := Lib.hid (show putText l = if 65536 < l.length then [] else putV l.length ++ l from rfl)
  generalize putText l = tt at *
  by_cases h : 65536 < l.length
  · have h' : (65536 : Int) < (l.length : Int) := by omega
    have HT1 := Lib.hid (HT.out.trans (if_pos h))
    go_enter Tryz.func72, Tryz.ntmps72
    go_wp2
    go_ret
    exact ⟨by rw [HT1.out]; rfl, Below.refl _ _⟩
  · have h' : ¬ (65536 : Int) < (l.length : Int) := by omega
    have HT1 := Lib.hid (HT.out.trans (if_neg h))
    go_enter Tryz.func72, Tryz.ntmps72
    go_wp2_with fail
    refine (r01put_walk l.length w (by omega)).mono ?_
    rintro e w1 ⟨rfl, hb⟩
    have hpl := putV_len (n := l.length) (by omega)
    have hns : ¬ 9223372036854775807 < (putV l.length).length + l.length := by omega
    go_wp2
    go_ret
    exact ⟨by rw [HT1.out, ← S_app]; rfl, hb⟩
end Go.Proofs.YtengciicdnkgaaaGreatDoor

namespace Go.Proofs.YtengciicdnkgaaaGreatDoor
open Go.RowKit

theorem wrap_acc {acc c e : Nat} (h : acc + c % 128 * 2 ^ e < 2 ^ 64) : IntKind.u64.wrap ((acc : Int) + IntKind.u64.wrap ((c : Int) % 128 * 2 ^ e)) = ((acc + c % 128 * 2 ^ e : Nat) : Int) := by
  have h1 : (c : Int) % 128 * 2 ^ e = ((c % 128 * 2 ^ e : Nat) : Int) := by push_cast; rfl
  rw [h1]
  generalize c % 128 * 2 ^ e = m at *
  rw [IntKind.wrap_u64, IntKind.wrap_u64]
  omega

set_option maxHeartbeats 2000000 in
set_option maxRecDepth 100000 in
theorem r01take_walk (l : List UInt8) (w : World) :
    Calls Tryz.prog 51 #[S l] w fun e w' => e = .returned (.tuple #[.int .u64 ((takeV l).1 : Nat), .int .i64 ((takeV l).2.1 : Nat), .int .i64 (takeV l).2.2]) ∧ w' = w := by
  have HV := Lib.hid (show takeV l = takeGo 0 0 (l.drop 0) from rfl)
  generalize takeV l = tv at *
  go_enter Tryz.func51, Tryz.ntmps51
  go_wp2
  go_loopw [5, 6, 7] (fun n i _ wr => wr = w ∧ ∃ k acc : Nat, k ≤ 9 ∧ acc < 2 ^ (7 * k) ∧ i = .int .i64 k ∧ n = .int .u64 acc ∧ tv = takeGo k acc (l.drop k)) (fun _ i _ _ => 10 - (intOf i).toNat)
  case atStart => exact ⟨rfl, 0, 0, by omega, by simp, rfl, rfl, HV.out⟩
  case round =>
    obtain ⟨rfl, k, acc, hk, ha, rfl, rfl, ht⟩ := hrel
    have h10 : (k : Int) < 10 := by omega
    by_cases h1 : k < l.length
    · have h1' : ¬ (l.length : Int) ≤ (k : Int) := by omega
      have HT := Lib.hid (ht.trans (takeGo_at h1))
      clear ht
      obtain ⟨c, hcd⟩ : ∃ c, c = l[k].toNat := ⟨_, rfl⟩
      have hc : (({ data := l.toArray } : ByteArray)[k]'h1).toNat = c := hcd.symm
      have hc8 : c < 256 := by rw [hcd]; exact UInt8.toNat_lt _
      rw [← hcd] at HT
      clear hcd
      by_cases h9 : k = 9 ∧ 1 < c
      · have e1 : ((k : Int) == 9) = true := by rw [beq_iff_eq]; omega
        have e2 : (1 : Int) < (c : Int) := by omega
        have HT' := Lib.hid (HT.out.trans (if_pos h9))
        clear HT h9
        go_wp2
        go_ret3
        exact ⟨by rw [HT'.out]; rfl, rfl⟩
      · have hb := acc_bound (d := c % 128) hk ha (by omega) (by intro e; have : ¬ 1 < c := fun hh => h9 ⟨e, hh⟩; omega)
        have HT' := Lib.hid (HT.out.trans (if_neg h9))
        clear HT
        by_cases h128 : c < 128
        · have HT2 := Lib.hid (HT'.out.trans (if_pos h128))
          clear HT'
          by_cases hz : c = 0 ∧ 0 < k
          · have HT3 := Lib.hid (HT2.out.trans (if_pos hz))
            obtain ⟨rfl, hz2⟩ := hz
            have hz3 : (0 : Int) < (k : Int) := by omega
            have h128' : ((0 : Nat) : Int) < 128 := by omega
            by_cases hk9 : k = 9
            · subst hk9
              go_wp2
              go_ret3
              exact ⟨by rw [HT3.out]; rfl, rfl⟩
            · have e1 : ((k : Int) == 9) = false := by rw [beq_eq_false_iff_ne]; omega
              go_wp2
              go_ret3
              exact ⟨by rw [HT3.out]; rfl, rfl⟩
          · have HT3 := Lib.hid (HT2.out.trans (if_neg hz))
            have h128' : (c : Int) < 128 := by omega
            have HW := Lib.hid (wrap_acc hb.1)
            by_cases hk9 : k = 9
            · have hc1 : c = 1 := by
                have h2 : ¬ 1 < c := fun hh => h9 ⟨hk9, hh⟩
                have h3 : ¬ c = 0 := fun hh => hz ⟨hh, by omega⟩
                omega
              have HB := Lib.hid hb.1
              clear h9 hz hb h128' h128 hc8 HW
              subst hk9 hc1
              go_wp2
              go_ret3
              have := HB.out
              refine ⟨?_, rfl⟩
              rw [HT3.out]
              simp at this ⊢
            · have e1 : ((k : Int) == 9) = false := by rw [beq_eq_false_iff_ne]; omega
              by_cases hz0 : c = 0
              · have hz2 : k = 0 := by omega
                clear h9 hz hb h128' h128 hc8 HW hk9 e1
                subst hz2 hz0
                have ha0 : acc = 0 := by simpa using ha
                subst ha0
                have hne : ¬ l = [] := by rintro rfl; simp at h1
                go_wp2
                go_ret3
                exact ⟨by rw [HT3.out]; rfl, rfl⟩
              · have hz1 : ((c : Int) == 0) = false := by rw [beq_eq_false_iff_ne]; omega
                clear h9 hz hb h128
                go_wp2
                go_ret3
                exact ⟨by rw [HT3.out, ← HW.out]; go_num, rfl⟩
        · have HT2 := Lib.hid (HT'.out.trans (if_neg h128))
          have hk9 : k < 9 := by
            rcases Nat.lt_or_ge k 9 with hi | hi
            · exact hi
            · exfalso; exact h9 ⟨by omega, by omega⟩
          have e1 : ((k : Int) == 9) = false := by rw [beq_eq_false_iff_ne]; omega
          have e3 : ¬ (c : Int) < 128 := by omega
          clear h9
          go_wp2
          go_roundw
          case rel => refine ⟨trivial, k + 1, _, by omega, hb.2.2 hk9, by go_num, by rw [wrap_acc hb.1], HT2.out⟩
          case measure => simp [intOf]; omega
    · have h1' : (l.length : Int) ≤ (k : Int) := by omega
      have HT := Lib.hid (ht.trans (takeGo_end (by omega)))
      clear ht
      go_wp2
      go_ret3
      exact ⟨by rw [HT.out]; rfl, rfl⟩

set_option maxHeartbeats 1100000 in
set_option maxRecDepth 100000 in
theorem r01taketext_walk (l : List UInt8) (w : World) (hl : l.length ≤ 1100000) :
    Calls Tryz.prog 68 #[S l] w fun e w' => e = .returned (.tuple #[S (takeText l).1, .int .i64 ((takeText l).2.1 : Nat), .int .i64 (takeText l).2.2]) ∧ w' = w := by
  have C := r01take_walk l w
  have HT := Lib.hid (show takeText l = if (takeV l).2.2 ≠ 0 then ([], 0, (takeV l).2.2) else if 65536 < (takeV l).1 then ([], 0, 4) else if l.length - (takeV l).2.1 < (takeV l).1 then ([], 0, 1) else (cutL l (takeV l).2.1 ((takeV l).2.1 + (takeV l).1), (takeV l).2.1 + (takeV l).1, 0) from rfl)
  have hok := takeV_ok (l := l)
  generalize takeText l = tt at *
  generalize takeV l = tv at *
  obtain ⟨n, k, e⟩ := tv
  simp only at C HT hok
  by_cases he : e = 0
  · subst he
    obtain ⟨h1, h2, h3⟩ := hok rfl
    have HT1 := Lib.hid (HT.out.trans (if_neg (by simp)))
    clear hok HT
    by_cases h4 : 65536 < n
    · have HT2 := Lib.hid (HT1.out.trans (if_pos h4))
      have h4' : (65536 : Int) < (n : Int) := by omega
      go_enter Tryz.func68, Tryz.ntmps68
      go_wp2_with (go_at_call 51; refine C.mono ?_; rintro e w1 ⟨rfl, rfl⟩)
      go_ret3
      exact ⟨by rw [HT2.out]; rfl, rfl⟩
    · have HT2 := Lib.hid (HT1.out.trans (if_neg h4))
      have h4' : ¬ (65536 : Int) < (n : Int) := by omega
      by_cases h5 : l.length - k < n
      · have HT3 := Lib.hid (HT2.out.trans (if_pos h5))
        have h5' : (l.length : Int) - (k : Int) < (n : Int) := by omega
        go_enter Tryz.func68, Tryz.ntmps68
        go_wp2_with (go_at_call 51; refine C.mono ?_; rintro e w1 ⟨rfl, rfl⟩)
        go_ret3
        exact ⟨by rw [HT3.out]; rfl, rfl⟩
      · have HT3 := Lib.hid (HT2.out.trans (if_neg h5))
        have h5' : ¬ (l.length : Int) - (k : Int) < (n : Int) := by omega
        have h6 : k + n ≤ l.length := by omega
        have h6' : (k : Int) + (n : Int) ≤ (l.length : Int) := by omega
        go_enter Tryz.func68, Tryz.ntmps68
        go_wp2_with (go_at_call 51; refine C.mono ?_; rintro e w1 ⟨rfl, rfl⟩)
        go_ret3
        exact ⟨by rw [HT3.out, ← S_extract]; rfl, rfl⟩
  · have HT1 := Lib.hid (HT.out.trans (if_pos he))
    have he' : (e == 0) = false := by rw [beq_eq_false_iff_ne]; exact he
    have he2 : (e != 0) = true := by rw [bne_iff_ne]; exact he
    go_enter Tryz.func68, Tryz.ntmps68
    go_wp2_with (go_at_call 51; refine C.mono ?_; rintro e w1 ⟨rfl, rfl⟩)
    go_ret3
    exact ⟨by rw [HT1.out]; rfl, rfl⟩
end Go.Proofs.YtengciicdnkgaaaGreatDoor
