/- GenBegins: the walk. -/
import Derived.Test.YtdkmnolljllddaaDoorLaw30T
namespace Go.Proofs.YtdkmnolljllddaaDoor
open Go.RowKit

theorem textG_take (s : Int) {n m : Int} (h0 : 0 ≤ n) (h : n ≤ m) : (textG s m).take n.toNat = textG s (min n 32768) := by
  unfold textG countG
  rw [← List.map_take]
  congr 1
  by_cases hm : n ≤ 32768
  · rw [numsG_take _ _ _ (by omega), show (min (min n 32768) 32768).toNat = n.toNat by omega]
  · rw [List.take_of_length_le (by rw [numsG_len]; omega)]
    congr 1; omega
theorem textG_len2 (s : Int) {n : Int} (h1 : n ≤ 32768) : (textG s n).length = n.toNat := by
  unfold textG countG
  rw [List.length_map, numsG_len, Int.min_eq_left h1]
theorem choiceG_len2 (s : Int) {n : Int} (h1 : n ≤ 4096) : (choiceG s n).length = n.toNat := by
  unfold choiceG countG
  rw [List.length_map, numsG_len, Int.min_eq_left h1]
theorem textG_pre (s : Int) {n m : Int} (h0 : 0 ≤ n) (h : n ≤ m) (hm : m ≤ 4096) : (textG s m).take n.toNat = textG s n ∧ (choiceG s m).take n.toNat = choiceG s n := by
  unfold textG choiceG countG
  constructor
  · rw [← List.map_take, numsG_take _ _ _ (by omega), show (min n 32768).toNat = n.toNat by omega]
  · rw [← List.map_take, numsG_take _ _ _ (by omega), show (min n 4096).toNat = n.toNat by omega]
theorem choiceG_head (s : Int) {n : Int} (h0 : 0 < n) : (choiceG s n)[0]? = some (byteG (numberG s 1)) := by
  unfold choiceG countG
  obtain ⟨k, hk⟩ : ∃ k, (min n 4096).toNat = k + 1 := ⟨(min n 4096).toNat - 1, by omega⟩
  rw [hk]; rfl

theorem extract_take (l : List UInt8) (k : Nat) : (({ data := l.toArray } : ByteArray).extract 0 k).toList = l.take k := by
  have := S_extract l 0 k
  rw [Value.string.inj this, ByteArray.toList_eq]; simp [cutL]
set_option maxHeartbeats 4000000 in
set_option maxRecDepth 100000 in
theorem gbegins_walk (s : Int) (a b : Nat) (w : World) (hM : Mx w) (hT : SpTab w) (ha : a < 256) (hb : b < 256) (hs0 : 0 ≤ s) (hs1 : s < 18446744073709551616) :
    Calls Tryd.prog 6 #[.int .u64 s, .int .u8 a, .int .u8 b] w fun e w' => e = .returned (.bool true) ∧ Below w.heap.size w w' := by
  have HM := Lib.hid hM
  have HT := Lib.hid hT
  clear hM hT
  obtain ⟨n, hn⟩ : ∃ n : Nat, n = min a b := ⟨_, rfl⟩
  obtain ⟨m, hm⟩ : ∃ m : Nat, m = max a b := ⟨_, rfl⟩
  have hnm : n ≤ m := by omega
  have hm2 : m < 256 := by omega
  go_enter Tryd.func6, Tryd.ntmps6
  go_upto_region 1 with fail
  go_cut [7, 8] from 13 (fun x y w1 => x = .int .i64 n ∧ y = .int .i64 m ∧ w1 = w)
  case first =>
    rcases Nat.lt_trichotomy a b with h | h | h
    · have h1 : (a : Int) < (b : Int) := by omega
      have h2 : ¬ (b : Int) < (a : Int) := by omega
      obtain rfl : n = a := by omega
      obtain rfl : m = b := by omega
      clear hn hm hnm hm2
      go_wp2
      go_meet
      case rel => exact ⟨by first | rfl | (congr 1; omega), by first | rfl | (congr 1; omega), by trivial⟩
    · subst h
      have h2 : ¬ (a : Int) < (a : Int) := by omega
      obtain rfl : n = a := by omega
      obtain rfl : m = n := by omega
      clear hn hm hnm hm2
      go_wp2
      go_meet
      case rel => exact ⟨by first | rfl | (congr 1; omega), by first | rfl | (congr 1; omega), by trivial⟩
    · have h1 : (b : Int) < (a : Int) := by omega
      have h2 : ¬ (a : Int) < (b : Int) := by omega
      obtain rfl : n = b := by omega
      obtain rfl : m = a := by omega
      clear hn hm hnm hm2
      go_wp2
      go_meet
      case rel => exact ⟨by first | rfl | (congr 1; omega), by first | rfl | (congr 1; omega), by trivial⟩
  case rest =>
  obtain ⟨rfl, rfl, rfl⟩ := hcut
  rename_i w
  clear hn hm ha hb
  have C1 := fun w => ptext_walk s n w
  have C2 := fun w => ptext_walk s m w
  have C3 := fun w => pchoices_walk s n w
  have C4 := fun w => pchoices_walk s m w
  have CN := fun w => pnumber_walk s 1 w
  have l1 := textG_len2 s (n := n) (by omega)
  have l2 := textG_len2 s (n := m) (by omega)
  have l3 := choiceG_len2 s (n := n) (by omega)
  have l4 := choiceG_len2 s (n := m) (by omega)
  obtain ⟨t1, t2⟩ := textG_pre s (n := n) (m := m) (by omega) (by omega) (by omega)
  have HH := Lib.hid (fun h : 0 < (n : Int) => choiceG_head s h)
  have hnb : 0 ≤ numberG s 1 := by
    unfold numberG
    rw [if_neg (by omega)]
    exact (outG_range s).1
  simp only [Int.toNat_natCast] at l1 l2 l3 l4 t1 t2
  generalize textG s n = T1 at *
  generalize textG s m = T2 at *
  generalize choiceG s n = U at *
  generalize choiceG s m = V at *
  generalize numberG s 1 = nb at *
  go_wp2_with fail
  refine (C1 _).mono ?_
  rintro e w1 ⟨rfl, hb1⟩
  go_wp2_with fail
  refine (C2 _).mono ?_
  rintro e w2 ⟨rfl, hb2⟩
  have hB := below_chain hb1 hb2 hb1.size
  clear C1 C2 hb1 hb2
  go_wp2_with fail
  refine (C3 _).mono ?_
  rintro e w3 ⟨rfl, hb3⟩
  replace hB := below_chain hB hb3 hB.size
  clear C3 hb3
  go_wp2_with fail
  refine (C4 _).mono ?_
  rintro e w4 ⟨rfl, hb4⟩
  replace hB := below_chain hB hb4 hB.size
  clear C4 hb4
  have e1 : ((T1.length : Int) == (n : Int)) = true := by rw [beq_iff_eq]; omega
  have e2 : ((T2.length : Int) == (m : Int)) = true := by rw [beq_iff_eq]; omega
  have e3 : ((V.length : Int) == (m : Int)) = true := by rw [beq_iff_eq]; omega
  have e4 : ((({ data := T2.toArray } : ByteArray).extract 0 n).toList == T1) = true := by rw [beq_iff_eq, extract_take, t1]
  have e5 : ((({ data := V.toArray } : ByteArray).extract 0 n).toList == U) = true := by rw [beq_iff_eq, extract_take, t2]
  have b1 : (n : Int) ≤ (T2.length : Int) := by omega
  have b2 : (n : Int) ≤ (V.length : Int) := by omega
  clear t1 t2
  have CA := fun w h1 h2 => awake30_walk w h1 h2
  by_cases h0 : n = 0
  · have h0' : ((n : Int) == 0) = true := by rw [beq_iff_eq]; omega
    clear CN HH h0
    go_upto_region 4 with fail
    have CW := fun (p : LaterOf w4) => awake30_walk p.world ((HM.out.below hB).below p.below) ((HT.out.below hB).below p.below)
    (refine wp_region_later (by kernel_rfl) (by kernel_rfl) ?_; (repeat (go_big_quiet_step ((go_at_call 18; exact LaterOf.call _ (CW _))))); refine wpQuiet_nil ?_; intro _ hw1; obtain ⟨lw, hw2⟩ := hw1; subst hw2)
    go_wp2
    go_ret
    exact ⟨rfl, below_chain hB lw.below hB.size⟩
  · have h0' : ((n : Int) == 0) = false := by rw [beq_eq_false_iff_ne]; omega
    have hh := HH.out (by omega)
    cases U with
    | nil => cases hh
    | cons c U =>
    simp only [List.getElem?_cons_zero, Option.some.injEq] at hh
    have hw : IntKind.u8.wrap nb = nb % 256 := by simp only [IntKind.wrap, IntKind.bits, IntKind.signed]; simp
    have hcc := byteG_nat hnb
    rw [← hh] at hcc
    have e6 : ((((({ data := (c :: U).toArray } : ByteArray)[0]'(by show 0 < (c :: U).length; simp)).toNat : Nat) : Int) == nb % 256) = true := by rw [beq_iff_eq]; exact hcc
    clear HH hh hcc l3
    go_upto_region 4 with fail
    have CN' := fun (p : LaterOf w4) => CN p.world
    have CW := fun (p : LaterOf w4) => awake30_walk p.world ((HM.out.below hB).below p.below) ((HT.out.below hB).below p.below)
    (refine wp_region_later (by kernel_rfl) (by kernel_rfl) ?_; (repeat (go_big_quiet_step (first | (go_at_call 19; exact LaterOf.call _ (CN _)) | (go_at_call 18; exact LaterOf.call _ (CW _))))); refine wpQuiet_nil ?_; intro _ hw1; obtain ⟨lw, hw2⟩ := hw1; subst hw2)
    go_wp2
    go_ret
    exact ⟨rfl, below_chain hB lw.below hB.size⟩
end Go.Proofs.YtdkmnolljllddaaDoor
