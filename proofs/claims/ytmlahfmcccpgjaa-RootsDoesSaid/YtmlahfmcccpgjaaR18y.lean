/- The reference's Replay. -/
import Derived.Test.YtmlahfmcccpgjaaR18r
namespace Go.Proofs.Ytmlahfmcccpgjaa
open Go.RowKit

theorem recordR_read {s : List UInt8} (hs : s.length ≤ 1000000) : (readR s).1.1.length ≤ 1000000 ∧ (readR s).1.2.length ≤ 1000000 := by
  unfold readR
  split
  · simp
  split
  · simp
  rename_i h1 h2
  have := takeText_ok (l := s.drop 1) (by simpa using h2)
  simp only [readX]
  simp only [List.length_drop] at this
  constructor
  · omega
  · split
    · simp
    · simp; omega
theorem insR_len (l : List Snp) (x : Snp) : (insR l x).length = l.length + 1 := by
  unfold insR
  have := congrArg List.length (List.takeWhile_append_dropWhile (p := fun y : Snp => !decide (x.1 < y.1)) (l := l))
  simp only [List.length_append, List.length_cons] at this ⊢
  omega
theorem stepR_len (l : List Snp) (x : Snp) (g : Bool) : (stepR l x g).1.length ≤ l.length + 1 := by
  unfold stepR dropE putE dropL1
  have h1 := List.length_filter_le (fun y : Snp => !(y.1 == x.1)) l
  have h2 := insR_len l x
  repeat' split
  all_goals simp only; omega
theorem replayR_stop1 {acc : List Snp} {i : Nat} {s : List UInt8} {ss : List (List UInt8)} (h : (readR s).2.2 = false) : replayR acc i (s :: ss) = (acc, i) := by
  rw [replayR, if_pos h]
theorem replayR_stop2 {acc : List Snp} {i : Nat} {s : List UInt8} {ss : List (List UInt8)} (h : (readR s).2.2 = true) (he : (stepR acc (readR s).1 (readR s).2.1).2 ≠ 0) : replayR acc i (s :: ss) = ((stepR acc (readR s).1 (readR s).2.1).1, i) := by
  rw [replayR, if_neg (by rw [h]; simp), if_pos he, stepR_err he]
theorem replayR_on {acc : List Snp} {i : Nat} {s : List UInt8} {ss : List (List UInt8)} (h : (readR s).2.2 = true) (he : (stepR acc (readR s).1 (readR s).2.1).2 = 0) : replayR acc i (s :: ss) = replayR (stepR acc (readR s).1 (readR s).2.1).1 (i + 1) ss := by
  rw [replayR, if_neg (by rw [h]; simp), if_neg (by rw [he]; simp)]

theorem str_cells {w : World} {b o : Nat} {xs : List (List UInt8)} (h : ∀ j x, xs[j]? = some x → w.cell? ⟨b, o + j, none⟩ = some (S x)) {j : Nat} (hj : j < xs.length) : w.cell? ⟨b, o + j, none⟩ = some (S xs[j]) :=
  h j xs[j] (by simp [hj])

set_option maxHeartbeats 2000000 in
set_option maxRecDepth 100000 in
theorem r18replay_walk (v : Value) (xs : List (List UInt8)) (w : World) (hr : StrRow w v xs) (hcnt : xs.length ≤ 900000) (hlen : ∀ x ∈ xs, x.length ≤ 1000000) :
    Calls Try.prog 11 #[v] w fun e w' => ∃ v', e = .returned (.tuple #[v', .int .i64 (replayR [] 0 xs).2]) ∧ SnpRow w' v' (replayR [] 0 xs).1 ∧ Below w.heap.size w w' := by
  obtain ⟨a, c, rfl, hc, hm, hx⟩ := hr
  have HX := Lib.hid hx
  have HL := Lib.hid hlen
  clear hx hlen
  have HR0 := Lib.hid (show replayR [] 0 xs = replayR [] 0 (xs.drop 0) from rfl)
  generalize replayR [] 0 xs = rp at *
  go_enter Try.func11, Try.ntmps11
  go_wp2
  go_loopw [4, 5] (fun v i wr => ∃ (k : Nat) (acc : List Snp), k ≤ xs.length ∧ i = .int .i64 k ∧ acc.length ≤ k ∧ SnpRow wr v acc ∧ rp = replayR acc k (xs.drop k) ∧ Below w.heap.size w wr) (fun _ i _ => xs.length - (intOf i).toNat)
  case atStart => exact ⟨0, [], Nat.zero_le _, rfl, by simp, Row.nil _ _, HR0.out, Below.refl _ _⟩
  case round =>
    obtain ⟨k, acc, hk, rfl, hak, hrow, hrp, hB⟩ := hrel
    have HRP := Lib.hid hrp
    have HB := Lib.hid hB
    have HROW := Lib.hid hrow
    clear hrp hrow
    by_cases h1 : k < xs.length
    · have hx := HX.out
      rcases hx with hx | ⟨b, o, rfl, hx⟩
      · exfalso; rw [hx] at h1; simp at h1
      have hc1 := cell_below hB (str_cells hx h1)
      have hl1 := HL.out xs[k] (by simp)
      have HD := Lib.hid (HRP.out.trans (by rw [List.drop_eq_getElem_cons h1]))
      clear hx hB
      generalize xs[k] = s at *
      have h1' : (k : Int) < (xs.length : Int) := by omega
      have C1 := fun w => r18read_walk s w hl1
      obtain ⟨hl2, hl3⟩ := recordR_read hl1
      have HS1 := Lib.hid (fun h => HD.out.trans (replayR_stop1 h))
      have HS2 := Lib.hid (fun h he => HD.out.trans (replayR_stop2 h he))
      have HS3 := Lib.hid (fun h he => HD.out.trans (replayR_on h he))
      have hsl := stepR_len acc (readR s).1 (readR s).2.1
      generalize readR s = rd at *
      obtain ⟨x, g, ok⟩ := rd
      simp only at C1 hl2 hl3 HS1 HS2 HS3 hsl
      cases ok with
      | false =>
        have HF := Lib.hid (HS1.out rfl)
        go_wp2_with (go_at_call 43; refine (C1 _).mono ?_; rintro e w1 ⟨rfl, hb⟩)
        go_ret2
        exact ⟨_, by rw [HF.out]; rfl, by rw [HF.out]; exact (HROW.out.below hb).below ((Below.refl _ _).alloc (Nat.le_refl _) _), (below_chain HB.out hb HB.out.size).alloc (by have := HB.out.size; have := hb.size; omega) _⟩
      | true =>
        cases g with
        | true =>
          have CD := fun v w hr => r18drop_walk v acc x.1 w hr (by omega)
          have hst : stepR acc x true = dropE acc x.1 := rfl
          rw [hst] at hsl
          simp only [hst] at HS2 HS3
          clear hst
          generalize dropE acc x.1 = de at *
          obtain ⟨dl, er⟩ := de
          simp only at CD hsl HS2 HS3
          obtain ⟨p, q⟩ := x
          simp only at CD hl2 hl3
          go_wp2_with (go_at_call 43; refine (C1 _).mono ?_; rintro e w1 ⟨rfl, hb⟩)
          have hb2 : Below w.heap.size w (w1.alloc (.cells #[S p, S q] 31)) := (below_chain HB.out hb HB.out.size).alloc (by have := HB.out.size; have := hb.size; omega) _
          have hr2 := (HROW.out.below hb).below ((Below.refl _ _).alloc (Nat.le_refl _) (.cells #[S p, S q] 31))
          clear hb
          refine (CD _ _ hr2).mono ?_
          rintro e w2 ⟨v2, rfl, hrow2, hb3⟩
          have hB3 := below_chain hb2 hb3 hb2.size
          by_cases he : er = 0
          · have HF := Lib.hid (HS3.out trivial he)
            subst he
            go_wp2
            go_roundw
            case rel => exact ⟨k + 1, dl, by omega, by go_num, by omega, hrow2, HF.out, hB3⟩
            case measure => simp [intOf]; omega
          · have HF := Lib.hid (HS2.out trivial he)
            have he2 : (er != 0) = true := by rw [bne_iff_ne]; exact he
            clear he
            go_wp2
            go_ret2
            exact ⟨_, by rw [HF.out]; rfl, by rw [HF.out]; exact hrow2, hB3⟩
        | false =>
          have CD := fun v w hr => r18put_walk v acc x w hr (by omega) hl2 hl3
          have hst : stepR acc x false = putE acc x := rfl
          rw [hst] at hsl
          simp only [hst] at HS2 HS3
          clear hst
          generalize putE acc x = de at *
          obtain ⟨dl, er⟩ := de
          simp only at CD hsl HS2 HS3
          obtain ⟨p, q⟩ := x
          simp only at hl2 hl3
          go_wp2_with (go_at_call 43; refine (C1 _).mono ?_; rintro e w1 ⟨rfl, hb⟩)
          have hb2 : Below w.heap.size w (w1.alloc (.cells #[S p, S q] 31)) := (below_chain HB.out hb HB.out.size).alloc (by have := HB.out.size; have := hb.size; omega) _
          have hr2 := (HROW.out.below hb).below ((Below.refl _ _).alloc (Nat.le_refl _) (.cells #[S p, S q] 31))
          clear hb
          refine (CD _ _ hr2).mono ?_
          rintro e w2 ⟨v2, rfl, hrow2, hb3⟩
          have hB3 := below_chain hb2 hb3 hb2.size
          by_cases he : er = 0
          · have HF := Lib.hid (HS3.out trivial he)
            subst he
            go_wp2
            go_roundw
            case rel => exact ⟨k + 1, dl, by omega, by go_num, by omega, hrow2, HF.out, hB3⟩
            case measure => simp [intOf]; omega
          · have HF := Lib.hid (HS2.out trivial he)
            have he2 : (er != 0) = true := by rw [bne_iff_ne]; exact he
            clear he
            go_wp2
            go_ret2
            exact ⟨_, by rw [HF.out]; rfl, by rw [HF.out]; exact hrow2, hB3⟩
    · have h1' : ¬ (k : Int) < (xs.length : Int) := by omega
      have hke : k = xs.length := by omega
      have HF := Lib.hid (show rp = (acc, xs.length) by rw [HRP.out, List.drop_eq_nil_of_le (by omega), hke]; rfl)
      clear hke
      go_wp2
      go_ret2
      exact ⟨_, by rw [HF.out]; rfl, by rw [HF.out]; exact HROW.out, HB.out⟩
end Go.Proofs.Ytmlahfmcccpgjaa
