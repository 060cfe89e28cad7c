/- DiskBack, where the text that is written is empty and the file was there. -/
import Derived.Test.YthjoaoakadaieaaLaw15L
import Derived.Test.YthjoaoakadaieaaBackLem
namespace Go.Proofs.Ythjoaoakadaieaa
open Go.RowKit

attribute [local go_sem] dec_le_false dec_leN_false
set_option maxHeartbeats 16000000 in
set_option maxRecDepth 100000 in
theorem back_walk1 (v : Value) (off : Bool) (fuse : Int) (l : List DF) (nm : List UInt8) (k : Nat) (s ot : List UInt8) (w : World) (hr : FilesR w v l) (hk : k < 65536) (hsx : s = []) (hwx : (readD (los l, off, fuse) nm).2 = true) :
    Calls Try.prog 5 #[DiskV v off fuse, S nm, .int .u16 k, S s, S ot] w fun e w' => e = .returned (.bool true) ∧ Below w.heap.size w w' := by
  have HSX := Lib.hid hsx
  have HWX := Lib.hid hwx
  clear hsx hwx
  have hb0 : Below w.heap.size w (w.alloc (DCells v off fuse)) := (Below.refl _ _).alloc (Nat.le_refl _) _
  have hx0 := heap_alloc_new w (DCells v off fuse)
  have C := few_walk v off fuse l (w.alloc (DCells v off fuse)) (hr.below hb0)
  obtain ⟨a, c, rfl, hc, hcm, _⟩ := hr.1
  go_enter Try.func5, Try.ntmps5
  go_wp2_with fail
  refine C.mono ?_
  rintro e w1 ⟨b, rfl, hfew, hb1⟩
  have hB1 := below_chain hb0 hb1 hb0.size
  have hx1 := box_kept' hb1 hx0
  have hr1 := hr.below hB1
  clear C hx0 hb0 hb1
  cases b with
  | false => (have CA := awake15_walk w1; go_wp2_with fail; refine CA.mono ?_; rintro e wy ⟨rfl, hby⟩; have hBy := below_chain hB1 hby (Below.size hB1); go_wp2; go_ret; exact ⟨rfl, hBy⟩)
  | true =>
  have hF := hfew rfl
  have HF := Lib.hid hF
  have hl12 := hF.1
  obtain ⟨y0, y1, y2⟩ := dbox_cells hx1
  clear hF hfew
  by_cases g0 : 100 < nm.length
  · have g0' : (100 : Int) < (nm.length : Int) := by omega
    (have CA := awake15_walk w1; go_wp2_with fail; refine CA.mono ?_; rintro e wy ⟨rfl, hby⟩; have hBy := below_chain hB1 hby (Below.size hB1); go_wp2; go_ret; exact ⟨rfl, hBy⟩)
  have g0' : ¬ (100 : Int) < (nm.length : Int) := by omega
  by_cases g1 : 3000 < s.length
  · have g1' : (3000 : Int) < (s.length : Int) := by omega
    (have CA := awake15_walk w1; go_wp2_with fail; refine CA.mono ?_; rintro e wy ⟨rfl, hby⟩; have hBy := below_chain hB1 hby (Below.size hB1); go_wp2; go_ret; exact ⟨rfl, hBy⟩)
  have g1' : ¬ (3000 : Int) < (s.length : Int) := by omega
  have C2 := rfit15_walk (.slice a l.length c) off fuse l w1 hr1 (by omega) (few_short HF.out)
  obtain ⟨q, hq⟩ : ∃ q, fitD (los l, off, fuse) = q := ⟨_, rfl⟩
  rw [hq] at C2
  cases q with
  | false =>
    go_wp2_with fail
    refine C2.mono ?_
    rintro e w2 ⟨rfl, hb2⟩
    have hB2 := below_chain hB1 hb2 hB1.size
    (have CA := awake15_walk w2; go_wp2_with fail; refine CA.mono ?_; rintro e wy ⟨rfl, hby⟩; have hBy := below_chain hB2 hby (Below.size hB2); go_wp2; go_ret; exact ⟨rfl, hBy⟩)
  | true =>
  by_cases g2 : 100 < ot.length
  · have g2' : (100 : Int) < (ot.length : Int) := by omega
    go_wp2_with fail
    refine C2.mono ?_
    rintro e w2 ⟨rfl, hb2⟩
    have hB2 := below_chain hB1 hb2 hB1.size
    (have CA := awake15_walk w2; go_wp2_with fail; refine CA.mono ?_; rintro e wy ⟨rfl, hby⟩; have hBy := below_chain hB2 hby (Below.size hB2); go_wp2; go_ret; exact ⟨rfl, hBy⟩)
  have g2' : ¬ (100 : Int) < (ot.length : Int) := by omega
  go_wp2_with fail
  refine C2.mono ?_
  rintro e w2 ⟨rfl, hb2⟩
  have hB2 := below_chain hB1 hb2 hB1.size
  have hx2 := box_kept' hb2 hx1
  have hr2 := hr1.below hb2
  have FL := fit_get hq
  have FP := fitP_of hq
  clear C2 y0 y1 y2 hx1 hr1 hb2
  obtain ⟨y0, y1, y2⟩ := dbox_cells hx2
  have C3 := pread15_walk (.slice a l.length c) off fuse l nm w2 hr2 (by omega) FL.up FL.ok
  obtain ⟨⟨old, was⟩, hold⟩ : ∃ r, readD (los l, off, fuse) nm = r := ⟨_, rfl⟩
  have HOLDL := Lib.hid (show old.length ≤ 262144 by have h := read_len (n := nm) FP; rw [hold] at h; exact h)
  have hwx := HWX.out
  clear HWX
  rw [hold] at C3 hwx
  simp only at hwx
  have HWX := Lib.hid hwx
  clear hwx
  go_wp2_with fail
  refine C3.mono ?_
  rintro e w3 ⟨rfl, hb3⟩
  have hB3 := below_chain hB2 hb3 hB2.size
  have hx3 := box_kept' hb3 hx2
  have hr3 := hr2.below hb3
  clear C3 y0 y1 y2 hx2 hr2 hb3
  obtain ⟨y0, y1, y2⟩ := dbox_cells hx3
  have C4 := pwrite15_walk (fun _ => False) (.slice a l.length c) off fuse l nm k s w3 (fun k h => h.elim) (FilesZ.of hr3) (by omega) FL.up FL.f1 FL.f2 (by omega) (by omega) FL.opsl
  go_wp2_with fail
  refine C4.mono ?_
  rintro e w4 ⟨v4, o4, f4, l4, e4, rfl, hz4, hres4, hb4⟩
  have hB4 := below_chain hB3 hb4 hB3.size
  have hx4 := box_kept' hb4 hx3
  have hr4 := hr3.below hb4
  have hr4c := hz4.here
  have F4 := fit_get (l := l4) (off := o4) (fuse := f4) (by have h := (writeD_fit (n := nm) (k := k) (s := s) FP).fit; rw [hres4] at h; exact h)
  have hrv := hr4c
  obtain ⟨⟨a4, c4, rfl, _⟩, _⟩ := hrv
  obtain ⟨w5, hw5, hb5, hx5c⟩ : ∃ w5, w5 = w4.alloc (DCells (.slice a4 l4.length c4) o4 f4) ∧ Below w4.heap.size w4 w5 ∧ w5.heap[w4.heap.size]? = some (DCells (.slice a4 l4.length c4) o4 f4) := ⟨_, rfl, (Below.refl _ _).alloc (Nat.le_refl _) _, heap_alloc_new _ _⟩
  have hB5 := below_chain hB4 hb5 hB4.size
  have hx5 := box_kept' hb5 hx4
  have hr5 := hr4.below hb5
  have hr5c := hr4c.below hb5
  have yq0 := fun X => cell_old (dbox_cells hx4).1 X
  have yq1 := fun X => cell_old (dbox_cells hx4).2.1 X
  have yq2 := fun X => cell_old (dbox_cells hx4).2.2 X
  clear C4 y0 y1 y2 hz4 hx4 hr4 hr4c hx3 hr3 hb4 hb5
  obtain ⟨y0, y1, y2⟩ := dbox_cells hx5
  obtain ⟨z0, z1, z2⟩ := dbox_cells hx5c
  by_cases he : e4 = 0
  case neg =>
    have he' : (e4 != 0) = true := by rw [bne_iff_ne]; exact he
    by_cases h13 : e4 = 13
    · subst h13
      go_wp2_with fail
      rw [← hw5]
      clear hw5
      (have CA := awake15_walk w5; go_wp2_with fail; refine CA.mono ?_; rintro e wy ⟨rfl, hby⟩; have hBy := below_chain hB5 hby (Below.size hB5); go_wp2; go_ret; exact ⟨rfl, hBy⟩)
    · have h13' : (e4 == 13) = false := by rw [beq_eq_false_iff_ne]; exact h13
      have hcd := (act_err hres4 he).resolve_left h13
      have C5 := rsame15_walk (.slice a4 l4.length c4) (.slice a l.length c) o4 off f4 fuse l4 l w5 hr5c hr5 (by have := F4.len; omega) (fun x hx => by have := F4.opsl x hx; omega)
      rw [hcd, decide_eq_true rfl] at C5
      go_wp2_with fail
      rw [← hw5]
      clear hw5
      go_wp2_with fail
      refine C5.mono ?_
      rintro e w6 ⟨rfl, hb6⟩
      have hB6 := below_chain hB5 hb6 hB5.size
      (have CA := awake15_walk w6; go_wp2_with fail; refine CA.mono ?_; rintro e wy ⟨rfl, hby⟩; have hBy := below_chain hB6 hby (Below.size hB6); go_wp2; go_ret; exact ⟨rfl, hBy⟩)
  subst he
  obtain ⟨t, ht, hback⟩ := back_reads hres4
  have hoth := (write_read hres4).2
  rw [hold] at hback
  simp only at hback
  have HBK := Lib.hid hback
  have HOT := Lib.hid hoth
  clear hback hoth
  have C5 := pread15_walk (.slice a4 l4.length c4) o4 f4 l4 nm w5 hr5c (by have := F4.len; omega) F4.up F4.ok
  rw [ht] at C5
  go_wp2_with fail
  rw [← hw5]
  clear hw5
  go_wp2_with fail
  refine C5.mono ?_
  rintro e w6 ⟨rfl, hb6⟩
  have hB6 := below_chain hB5 hb6 hB5.size
  have hx6 := box_kept' hb6 hx5
  have hx6c := box_kept' hb6 hx5c
  have hr6 := hr5.below hb6
  have hr6c := hr5c.below hb6
  clear C5 y0 y1 y2 z0 z1 z2 hx5 hx5c hr5 hr5c hb6
  clear yq0 yq1 yq2
  have HWAS : was = false → old = [] := fun h => by have := not_was (d := (los l, off, fuse)) (n := nm) (by rw [hold]; exact h); rw [hold] at this; exact this
  have hlt : k + s.length < 9223372036854775808 := by omega
  have HSL := Lib.hid (show t.length ≤ old.length ∨ t.length = max old.length (k + s.length) from by
    by_cases hs : s = []
    · exact .inl (by rw [HBK.out.same hs]; exact Nat.le_refl _)
    · exact .inr (HBK.out.len hs))
  have htl : t.length < 9223372036854775806 := by
    have h1 := HOLDL.out
    rcases HSL.out with h | h <;> omega
  clear HOLDL
  have hwx := HWX.out
  subst hwx
  have hsx := HSX.out
  have hs1 : (s == []) = true := by rw [beq_iff_eq]; exact hsx
  have hs2 : (t == old) = true := by rw [beq_iff_eq]; exact HBK.out.same hsx
  have hs3 : t.length ≤ old.length := by rw [HBK.out.same hsx]; exact Nat.le_refl _
  clear HWAS hsx
  go_wp2
  go_loopw [18] (fun i wr => ∃ j : Nat, j ≤ t.length ∧ i = .int .i64 j ∧ Below w6.heap.size w6 wr) (fun i _ => t.length - (intOf i).toNat)
  case atStart => exact ⟨0, by omega, rfl, Below.refl _ _⟩
  case round =>
    obtain ⟨j, hj, rfl, hB⟩ := hrel
    by_cases h1 : j < t.length
    · have h1' : (j : Int) < (t.length : Int) := by omega
      have hcs : (¬ j < k ∧ ¬ k + s.length ≤ j) ∨ (j < k ∧ ∃ h2 : j < old.length, t[j] = old[j]) ∨ (j < k ∧ ¬ j < old.length ∧ t[j] = 0) ∨ (¬ j < k ∧ k + s.length ≤ j ∧ ∃ h2 : j < old.length, t[j] = old[j]) ∨ (¬ j < k ∧ k + s.length ≤ j ∧ ¬ j < old.length ∧ t[j] = 0) := by
        by_cases q1 : j < k
        · rcases HBK.out.out j h1 (.inl q1) with ⟨h2, h3⟩ | ⟨h2, h3⟩
          · exact .inr (.inl ⟨q1, h2, h3⟩)
          · exact .inr (.inr (.inl ⟨q1, by omega, h3⟩))
        · by_cases q2 : k + s.length ≤ j
          · rcases HBK.out.out j h1 (.inr q2) with ⟨h2, h3⟩ | ⟨h2, h3⟩
            · exact .inr (.inr (.inr (.inl ⟨q1, q2, h2, h3⟩)))
            · exact .inr (.inr (.inr (.inr ⟨q1, q2, by omega, h3⟩)))
          · exact .inl ⟨q1, q2⟩
      replace hcs : (¬ j < k ∧ ¬ k + s.length ≤ j) ∨ (j < k ∧ ∃ h2 : j < old.length, t[j] = old[j]) ∨ (j < k ∧ ¬ j < old.length ∧ ¬ t.length ≤ old.length ∧ t[j] = 0) ∨ (¬ j < k ∧ k + s.length ≤ j ∧ ∃ h2 : j < old.length, t[j] = old[j]) := by
        rcases hcs with h | h | ⟨h2, h3, h4⟩ | h | ⟨h2, h3, h4, h5⟩
        · exact .inl h
        · exact .inr (.inl h)
        · exact .inr (.inr (.inl ⟨h2, h3, by omega, h4⟩))
        · exact .inr (.inr (.inr h))
        · exfalso
          rcases HSL.out with h6 | h6
          · omega
          · omega
      rcases hcs with ⟨q1, q2⟩ | ⟨q1, q2, q3⟩ | ⟨q1, q2, q9, q3⟩ | ⟨q1, q4, q2, q3⟩
      · have q1' : ¬ (j : Int) < (k : Int) := by omega
        have q2' : (j : Int) < (k : Int) + (s.length : Int) := by omega
        go_wp2
        go_quiet (fail)
        go_wp2
        go_roundw
        case rel => exact ⟨j + 1, by omega, by go_num, belowN hB _⟩
        case measure => simp [intOf]; omega
      · have q1' : (j : Int) < (k : Int) := by omega
        have q2' : (j : Int) < (old.length : Int) := by omega
        have q3' : (((({ data := t.toArray } : ByteArray)[j]'h1).toNat : Int) != ((({ data := old.toArray } : ByteArray)[j]'q2).toNat : Int)) = false := by
          rw [bne_eq_false_iff_eq]; show ((t[j]).toNat : Int) = ((old[j]).toNat : Int); rw [q3]
        clear q3
        go_wp2
        go_quiet (fail)
        go_wp2
        go_roundw
        case rel => exact ⟨j + 1, by omega, by go_num, belowN hB _⟩
        case measure => simp [intOf]; omega
      · first
        | exact absurd hs3 q9
        | have q1' : (j : Int) < (k : Int) := by omega
          have q2' : ¬ (j : Int) < (old.length : Int) := by omega
          have q4' : (old.length : Int) ≤ (j : Int) := by omega
          have q3' : (((({ data := t.toArray } : ByteArray)[j]'h1).toNat : Int) != 0) = false := by
            rw [bne_eq_false_iff_eq]; show ((t[j]).toNat : Int) = 0; rw [q3]; rfl
          clear q3
          go_wp2
          go_quiet (fail)
          go_wp2
          go_roundw
          case rel => exact ⟨j + 1, by omega, by go_num, belowN hB _⟩
          case measure => simp [intOf]; omega
      · have q1' : ¬ (j : Int) < (k : Int) := by omega
        have q5' : (k : Int) + (s.length : Int) ≤ (j : Int) := by omega
        have q2' : (j : Int) < (old.length : Int) := by omega
        have q3' : (((({ data := t.toArray } : ByteArray)[j]'h1).toNat : Int) != ((({ data := old.toArray } : ByteArray)[j]'q2).toNat : Int)) = false := by
          rw [bne_eq_false_iff_eq]; show ((t[j]).toNat : Int) = ((old[j]).toNat : Int); rw [q3]
        clear q3
        go_wp2
        go_quiet (fail)
        go_wp2
        go_roundw
        case rel => exact ⟨j + 1, by omega, by go_num, belowN hB _⟩
        case measure => simp [intOf]; omega
    · have h1' : ¬ (j : Int) < (t.length : Int) := by omega
      have hBQ := below_chain hB6 hB hB6.size
      have hxq := box_kept' hB hx6
      have hxqc := box_kept' hB hx6c
      have hrq := hr6.below hB
      have hrqc := hr6c.below hB
      clear hx6 hx6c hr6 hr6c
      obtain ⟨y0, y1, y2⟩ := dbox_cells hxq
      have C6 := pread15_walk (.slice a l.length c) off fuse l ot wr hrq (by omega) FL.up FL.ok
      obtain ⟨⟨xo, yo⟩, hxo⟩ : ∃ r, readD (los l, off, fuse) ot = r := ⟨_, rfl⟩
      rw [hxo] at C6
      go_wp2_with fail
      refine C6.mono ?_
      rintro e w7 ⟨rfl, hb7⟩
      have hB7 := below_chain hBQ hb7 hBQ.size
      have hx7c := box_kept' hb7 hxqc
      have hr7c := hrqc.below hb7
      clear C6 y0 y1 y2 hxq hxqc hrq hrqc
      obtain ⟨z0, z1, z2⟩ := dbox_cells hx7c
      have C7 := pread15_walk (.slice a4 l4.length c4) o4 f4 l4 ot w7 hr7c (by have := F4.len; omega) F4.up F4.ok
      obtain ⟨⟨xc, yc⟩, hxc⟩ : ∃ r, readD (los l4, o4, f4) ot = r := ⟨_, rfl⟩
      by_cases hon : ot = nm
      · have hon' : (ot == nm) = true := by rw [beq_iff_eq]; exact hon
        rw [hon] at C7 hxc
        rw [hxc] at C7
        have hnn : (nm == nm) = true := by simp
        clear hxc hxo
        go_wp2_with fail
        refine C7.mono ?_
        rintro e w8 ⟨rfl, hb8⟩
        have hB8 := below_chain hB7 hb8 hB7.size
        (have CA := awake15_walk w8; go_wp2_with fail; refine CA.mono ?_; rintro e wy ⟨rfl, hby⟩; have hBy := below_chain hB8 hby (Below.size hB8); go_wp2; go_ret; exact ⟨rfl, hBy⟩)
      · have hon' : (ot == nm) = false := by rw [beq_eq_false_iff_ne]; exact hon
        rw [← HOT.out ot hon, hxo] at C7
        have e1 : (xo == xo) = true := by simp
        have e2 : (yo == yo) = true := by simp
        go_wp2_with fail
        refine C7.mono ?_
        rintro e w8 ⟨rfl, hb8⟩
        have hB8 := below_chain hB7 hb8 hB7.size
        (have CA := awake15_walk w8; go_wp2_with fail; refine CA.mono ?_; rintro e wy ⟨rfl, hby⟩; have hBy := below_chain hB8 hby (Below.size hB8); go_wp2; go_ret; exact ⟨rfl, hBy⟩)
end Go.Proofs.Ythjoaoakadaieaa
