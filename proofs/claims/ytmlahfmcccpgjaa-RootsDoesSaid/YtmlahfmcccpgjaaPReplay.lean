/- The program's Replay. -/
import Derived.Test.YtmlahfmcccpgjaaPRead
namespace Go.Proofs.Ytmlahfmcccpgjaa
open Go.RowKit

set_option maxHeartbeats 2000000 in
set_option maxRecDepth 100000 in
theorem preplay_walk (v : Value) (xs : List (List UInt8)) (w : World) (hr : StrRow w v xs) (hcnt : xs.length ≤ 900000) (hlen : ∀ x ∈ xs, x.length ≤ 1000000) :
    Calls Try.prog 10 #[v] w fun e w' => ∃ v', e = .returned (.tuple #[v', .int .i64 (replayR [] 0 xs).2]) ∧ SnpRow w' v' (replayR [] 0 xs).1 ∧ Below w.heap.size w w' := by
  obtain ⟨a, c, rfl, hc, hm, hx⟩ := hr
  have HX := Lib.hid hx
  have HL := Lib.hid hlen
  clear hx hlen
  have HR0 := Lib.hid (show replayR [] 0 xs = replayR [] 0 (xs.drop 0) from rfl)
  generalize replayR [] 0 xs = rp at *
  go_enter Try.func10, Try.ntmps10
  go_wp2
  go_loopw [4, 13] (fun v i wr => ∃ (k : Nat) (acc : List Snp), k ≤ xs.length ∧ i = .int .i64 k ∧ fitR acc = true ∧ SnpRow wr v acc ∧ rp = replayR acc k (xs.drop k) ∧ Below w.heap.size w wr) (fun _ i _ => xs.length - (intOf i).toNat)
  case atStart => exact ⟨0, [], Nat.zero_le _, rfl, rfl, Row.nil _ _, HR0.out, Below.refl _ _⟩
  case round =>
    obtain ⟨k, acc, hk, rfl, hfit, hrow, hrp, hB⟩ := hrel
    have HRP := Lib.hid hrp
    have HB := Lib.hid hB
    have HROW := Lib.hid hrow
    have HFIT := Lib.hid hfit
    have hal : acc.length ≤ 20 := (fitR_parts hfit).1
    have HUP := Lib.hid (upS_of acc (fitR_parts hfit).2.2)
    clear hrp hrow hfit
    by_cases h1 : k < xs.length
    · have hx := HX.out
      rcases hx with hx | ⟨b, o, rfl, hx⟩
      · exfalso; rw [hx] at h1; simp at h1
      have hc1 := cell_below hB (str_cells hx h1)
      have hl1 := HL.out xs[k] (by simp)
      have HD := Lib.hid (HRP.out.trans (by rw [List.drop_eq_getElem_cons h1]))
      clear hx hB
      generalize xs[k] = s at *
      have h1' : (k : Int) < (xs.length : Int) := by omega
      have C1 := fun w => pread_walk s w hl1
      unfold PReadPost at C1
      obtain ⟨hl2, hl3⟩ := recordR_read hl1
      have HS1 := Lib.hid (fun h => HD.out.trans (replayR_stop1 h))
      have HS2 := Lib.hid (fun h he => HD.out.trans (replayR_stop2 h he))
      have HS3 := Lib.hid (fun h he => HD.out.trans (replayR_on h he))
      have HST := Lib.hid (fitR_step HFIT.out (readR s).1 (readR s).2.1)
      generalize readR s = rd at *
      obtain ⟨x, g, ok⟩ := rd
      simp only at C1 hl2 hl3 HS1 HS2 HS3 HST
      cases ok with
      | false =>
        have HF := Lib.hid (HS1.out rfl)
        clear HS1 HS2 HS3 HST
        go_wp2_with fail
        refine (C1 _).mono ?_
        rintro e w1 ⟨x1, g1, rfl, _, hb⟩
        obtain ⟨p1, q1⟩ := x1
        go_wp2
        go_ret2
        exact ⟨_, by rw [HF.out]; rfl, by rw [HF.out]; exact (HROW.out.below hb).below ((Below.refl _ _).alloc (Nat.le_refl _) _), (below_chain HB.out hb HB.out.size).alloc (by have := HB.out.size; have := hb.size; omega) _⟩
      | true =>
        have HS2' := Lib.hid (HS2.out rfl)
        have HS3' := Lib.hid (HS3.out rfl)
        clear HS1 HS2 HS3
        cases g with
        | true =>
          have CD := fun v w hr => pdrop_walk v acc x.1 w hr (by omega) HUP.out
          have hst : stepR acc x true = dropE acc x.1 := rfl
          simp only [hst] at HS2' HS3' HST
          clear hst
          generalize dropE acc x.1 = de at *
          obtain ⟨dl, er⟩ := de
          simp only at CD HS2' HS3' HST
          obtain ⟨p, q⟩ := x
          simp only at CD hl2 hl3
          go_wp2_with fail
          refine (C1 _).mono ?_
          rintro e w1 ⟨x1, g1, rfl, hxg, hb⟩
          obtain ⟨rfl, rfl⟩ := hxg trivial
          clear hxg
          go_wp2_with fail
          have hb2 : Below w.heap.size w (w1.alloc (.cells #[S p, S q] 31)) := (below_chain HB.out hb HB.out.size).alloc (by have := HB.out.size; have := hb.size; omega) _
          have hr2 := (HROW.out.below hb).below ((Below.refl _ _).alloc (Nat.le_refl _) (.cells #[S p, S q] 31))
          clear hb
          refine (CD _ _ hr2).mono ?_
          rintro e w2 ⟨v2, rfl, hrow2, hb3⟩
          have hB3 := below_chain hb2 hb3 hb2.size
          by_cases he : er = 0
          · have HF := Lib.hid (HS3'.out he)
            subst he
            clear HS2' HS3'
            go_wp2
            go_roundw
            case rel => exact ⟨k + 1, dl, by omega, by go_num, HST.out, hrow2, HF.out, hB3⟩
            case measure => simp [intOf]; omega
          · have HF := Lib.hid (HS2'.out he)
            have he2 : (er != 0) = true := by rw [bne_iff_ne]; exact he
            clear he HS2' HS3'
            go_wp2
            go_ret2
            exact ⟨_, by rw [HF.out]; rfl, by rw [HF.out]; exact hrow2, hB3⟩
        | false =>
          have CD := fun v w hr => pput18_walk v acc x w hr (by omega) hl2 hl3 HUP.out
          have hst : stepR acc x false = putE acc x := rfl
          simp only [hst] at HS2' HS3' HST
          clear hst
          generalize putE acc x = de at *
          obtain ⟨dl, er⟩ := de
          simp only at CD HS2' HS3' HST
          obtain ⟨p, q⟩ := x
          simp only at hl2 hl3
          go_wp2_with fail
          refine (C1 _).mono ?_
          rintro e w1 ⟨x1, g1, rfl, hxg, hb⟩
          obtain ⟨rfl, rfl⟩ := hxg trivial
          clear hxg
          go_wp2_with fail
          have hb2 : Below w.heap.size w (w1.alloc (.cells #[S p, S q] 31)) := (below_chain HB.out hb HB.out.size).alloc (by have := HB.out.size; have := hb.size; omega) _
          have hr2 := (HROW.out.below hb).below ((Below.refl _ _).alloc (Nat.le_refl _) (.cells #[S p, S q] 31))
          clear hb
          refine (CD _ _ hr2).mono ?_
          rintro e w2 ⟨v2, rfl, hrow2, hb3⟩
          have hB3 := below_chain hb2 hb3 hb2.size
          by_cases he : er = 0
          · have HF := Lib.hid (HS3'.out he)
            subst he
            clear HS2' HS3'
            go_wp2
            go_roundw
            case rel => exact ⟨k + 1, dl, by omega, by go_num, HST.out, hrow2, HF.out, hB3⟩
            case measure => simp [intOf]; omega
          · have HF := Lib.hid (HS2'.out he)
            have he2 : (er != 0) = true := by rw [bne_iff_ne]; exact he
            clear he HS2' HS3'
            go_wp2
            go_ret2
            exact ⟨_, by rw [HF.out]; rfl, by rw [HF.out]; exact hrow2, hB3⟩
    · have h1' : ¬ (k : Int) < (xs.length : Int) := by omega
      have hke : k = xs.length := by omega
      have HF := Lib.hid (show rp = (acc, xs.length) by rw [HRP.out, List.drop_eq_nil_of_le (by omega), hke]; rfl)
      clear hke
      go_wp2
      go_ret2
      exact ⟨_, by rw [HF.out]; rfl, by rw [HF.out]; exact HROW.out, HB.out⟩
end Go.Proofs.Ytmlahfmcccpgjaa
