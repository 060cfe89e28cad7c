/- The reference's Name. -/
import Derived.Test.YtengciicdnkgaaaGreatDoorBase
namespace Go.Proofs.YtengciicdnkgaaaGreatDoor
open Go.RowKit

theorem okByte_true {c : UInt8} (h : okByte c = true) : ((c.toNat : Int) == 0) = false ∧ ((c.toNat : Int) == 47) = false := by
  simp only [okByte, Bool.and_eq_true, Bool.not_eq_true', beq_eq_false_iff_ne, ne_eq] at h
  constructor
  · rw [beq_eq_false_iff_ne]; intro e; exact h.1 (UInt8.toNat_inj.1 (by simpa using e))
  · rw [beq_eq_false_iff_ne]; intro e; exact h.2 (UInt8.toNat_inj.1 (by simp; omega))
theorem okByte_false {c : UInt8} (h : okByte c = false) : c = 0 ∨ c = 47 := by
  simp only [okByte, Bool.and_eq_false_iff, Bool.not_eq_false', beq_iff_eq] at h
  exact h
theorem all_take_succ (l : List UInt8) (k : Nat) (h : k < l.length) : (l.take (k + 1)).all okByte = ((l.take k).all okByte && okByte l[k]) := by
  rw [List.take_succ_eq_append_getElem h, List.all_append]; simp
theorem all_bad {l : List UInt8} {k : Nat} (h : k < l.length) (hb : okByte l[k] = false) : l.all okByte = false := by
  rw [Bool.eq_false_iff]; intro ha; rw [List.all_eq_true] at ha; have := ha _ (List.getElem_mem h); rw [hb] at this; cases this

set_option maxHeartbeats 400000 in
theorem rname_walk (l : List UInt8) (w : World) (hl : l.length ≤ 1100000) :
    Calls Tryz.prog 100 #[S l] w fun e w' => e = .returned (.bool (nameB l)) ∧ w = w' := by
  by_cases hb : (l.isEmpty || decide (31 < l.length) || l == [46] || l == [46, 46]) = true
  · have HB := Lib.hid (show nameB l = false by unfold nameB; rw [hb]; rfl)
    rw [HB.out]
    by_cases h1 : l = []
    · subst h1
      go_enter Tryz.func100, Tryz.ntmps100
      go_wp2
      go_ret
      exact ⟨rfl, rfl⟩
    · have h1' : l.isEmpty = false := by simpa using h1
      clear h1
      by_cases h2 : (31 : Int) < (l.length : Int)
      · go_enter Tryz.func100, Tryz.ntmps100
        go_wp2
        go_ret
        exact ⟨rfl, rfl⟩
      · simp only [h1', Bool.false_or, Bool.or_eq_true, decide_eq_true_eq, beq_iff_eq] at hb
        rcases hb with (hb | hb) | hb
        · omega
        · subst hb
          go_enter Tryz.func100, Tryz.ntmps100
          go_wp2
          go_ret
          exact ⟨rfl, rfl⟩
        · subst hb
          go_enter Tryz.func100, Tryz.ntmps100
          go_wp2
          go_ret
          exact ⟨rfl, rfl⟩
  · have hb' : (l.isEmpty || decide (31 < l.length) || l == [46] || l == [46, 46]) = false := by simpa using hb
    simp only [Bool.or_eq_false_iff] at hb'
    obtain ⟨⟨⟨h1, h2⟩, h3⟩, h4⟩ := hb'
    have HN := Lib.hid (show nameB l = l.all okByte by unfold nameB; rw [h1, h2, h3, h4]; rfl)
    have h2' : (l.length : Int) ≤ 31 := by simp at h2; omega
    clear hb h2
    go_enter Tryz.func100, Tryz.ntmps100
    go_wp2
    go_loop [3] (fun i => ∃ k : Nat, k ≤ l.length ∧ i = .int .i64 k ∧ (l.take k).all okByte = true) (fun i => l.length - (intOf i).toNat)
    case atStart => exact ⟨0, Nat.zero_le _, rfl, rfl⟩
    case round =>
      obtain ⟨k, hk, rfl, ha⟩ := hrel
      have HA := Lib.hid ha
      clear ha
      by_cases hlt : k < l.length
      · have HS := Lib.hid (all_take_succ l k hlt)
        cases hok : okByte l[k]
        · have HF := Lib.hid (all_bad hlt hok)
          have hc := okByte_false hok
          clear hok
          rcases hc with hc | hc
          · have hc' : (({ data := l.toArray } : ByteArray)[k]'hlt).toNat = 0 := by show (l[k]).toNat = 0; rw [hc]; rfl
            clear hc
            go_wp2
            go_ret
            exact ⟨ret_bool (by rw [HN.out, HF.out]), rfl⟩
          · have hc' : (({ data := l.toArray } : ByteArray)[k]'hlt).toNat = 47 := by show (l[k]).toNat = 47; rw [hc]; rfl
            clear hc
            go_wp2
            go_ret
            exact ⟨ret_bool (by rw [HN.out, HF.out]), rfl⟩
        · have hc0 : (((({ data := l.toArray } : ByteArray)[k]'hlt).toNat : Int) == 0) = false := (okByte_true hok).1
          have hc1 : (((({ data := l.toArray } : ByteArray)[k]'hlt).toNat : Int) == 47) = false := (okByte_true hok).2
          have HO := Lib.hid hok
          clear hok
          go_wp2
          go_round
          case rel => exact ⟨k + 1, by omega, by go_num, by rw [HS.out, HA.out, HO.out]; rfl⟩
          case measure => simp [intOf]; omega
      · go_wp2
        go_ret
        exact ⟨ret_bool (by rw [HN.out]; have := HA.out; rw [List.take_of_length_le (by omega)] at this; exact this.symm), rfl⟩
end Go.Proofs.YtengciicdnkgaaaGreatDoor
