/- Chapter 9: the walks of the statements PathDepth, PathJoins. -/
import Derived.Test.YtdenbjjpchmoaaaDoorLaw09b
namespace Go.Proofs.YtdenbjjpchmoaaaDoor
open Go.RowKit

theorem fit_wdb {w0 w : World} (h : Wd w0 w) (a c : List UInt8) (n : Bool) (hn : fitB (a ++ 47 :: c) = n) (hl : (a ++ 47 :: c).length ≤ 1000000) :
    Calls Tryd.prog 11 #[.string ({ data := a.toArray } ++ { data := #[47] } ++ { data := c.toArray })] w fun e w' => e = .returned (.bool n) ∧ Wd w0 w' := by
  rw [S_below]; exact fit_wd h _ n hn hl
theorem dir_wdb {w0 w : World} (h : Wd w0 w) (a c : List UInt8) (n : List UInt8) (hn : dirL (a ++ 47 :: c) = n) (hl : (a ++ 47 :: c).length ≤ 1000000) :
    Calls Tryd.prog 16 #[.string ({ data := a.toArray } ++ { data := #[47] } ++ { data := c.toArray })] w fun e w' => e = .returned (S n) ∧ Wd w0 w' := by
  rw [S_below]; exact dir_wd h _ n hn hl
theorem count_step {l : List UInt8} {k : Nat} (h : k < l.length) : (l.take (k + 1)).count 47 = (l.take k).count 47 + (if l[k] = 47 then 1 else 0) := by
  rw [List.take_succ_eq_append_getElem h, List.count_append]
  by_cases hc : l[k] = 47
  · simp [hc]
  · simp [hc]

set_option maxHeartbeats 4000000 in
set_option maxRecDepth 100000 in
theorem depth_walk (l m : List UInt8) (w : World) (hM : Mx w) :
    Calls Tryd.prog 5 #[S l, S m] w fun e w' => e = .returned (.bool true) ∧ Below w.heap.size w w' := by
  have H0 := Wd.start hM
  by_cases h1 : (1000 : Int) < (l.length : Int)
  · go_enter Tryd.func5, Tryd.ntmps5
    go_wp2_with (go_at_call 8; refine (awake_wd H0).mono ?_; rintro e w1 ⟨rfl, hb⟩)
    go_ret
    exact ⟨rfl, hb.below⟩
  by_cases h2 : (100 : Int) < (m.length : Int)
  · go_enter Tryd.func5, Tryd.ntmps5
    go_wp2_with (go_at_call 8; refine (awake_wd H0).mono ?_; rintro e w1 ⟨rfl, hb⟩)
    go_ret
    exact ⟨rfl, hb.below⟩
  have hl : l.length ≤ 1000000 := by omega
  have hm : m.length ≤ 1000000 := by omega
  have hlm : (l ++ 47 :: m).length ≤ 1000000 := by simp; omega
  cases hf : fitB l with
  | false =>
    go_enter Tryd.func5, Tryd.ntmps5
    go_wp2_with fail
    refine (fit_wd H0 l false hf hl).mono ?_
    rintro e w1 ⟨rfl, H1⟩
    go_wp2_with fail
    refine (awake_wd H1).mono ?_
    rintro e w2 ⟨rfl, H2⟩
    go_wp2
    go_ret
    exact ⟨rfl, H2.below⟩
  | true =>
    obtain ⟨d, hd⟩ : ∃ d, d = (partsL l).length := ⟨_, rfl⟩
    have hfb := fitB_below (n := m) hf
    have hd8 : d ≤ 8 := by rw [hd]; exact ((fitB_iff l).1 hf).1
    have hsp := splitL_fit hf
    have hdl : nameB m = true → d < 8 → dirL (l ++ 47 :: m) = l := fun h1 h2 => dirL_below hf h1 (by rw [← hd]; exact h2)
    rw [← hd] at hfb
    have HFB := Lib.hid hfb
    have HDL := Lib.hid hdl
    have HF := Lib.hid hf
    have HC := Lib.hid (show d = 1 + l.count 47 by rw [hd]; exact partsL_depth l)
    obtain ⟨sp, hspd⟩ : ∃ sp, sp = partsL l := ⟨_, rfl⟩
    have HSP := Lib.hid (hsp.trans hspd.symm)
    have hspl : sp.length = d := by rw [hspd, hd]
    clear hfb hdl hf hsp hd hspd
    go_enter Tryd.func5, Tryd.ntmps5
    go_wp2_with fail
    refine (fit_wd H0 l true HF.out hl).mono ?_
    rintro e w1 ⟨rfl, H1⟩
    clear H0
    go_wp2_with fail
    refine (split_wd H1 l sp HSP.out hl).mono ?_
    rintro e w2 ⟨v, rfl, ⟨a, c, rfl, hca, hcm, _⟩, H2⟩
    clear H1
    rw [hspl]
    go_wp2
    go_loopw [6, 7, 27] (fun k _ i wr => ∃ j : Nat, j ≤ l.length ∧ i = .int .i64 j ∧ k = .int .i64 ((1 + (l.take j).count 47 : Nat) : Int) ∧ Wd w wr) (fun _ _ i _ => l.length - (intOf i).toNat)
    case atStart => exact ⟨0, Nat.zero_le _, rfl, rfl, H2⟩
    case round =>
      obtain ⟨j, hj, rfl, rfl, HR⟩ := hrel
      by_cases hlt : j < l.length
      · have hlt' : (j : Int) < (l.length : Int) := by omega
        have HS := Lib.hid (count_step hlt)
        have hcl : (l.take j).count 47 ≤ j := by have := List.count_le_length (a := (47 : UInt8)) (l := l.take j); rw [List.length_take] at this; omega
        generalize hct : (l.take j).count 47 = ct at *
        by_cases hs : l[j] = 47
        · have hc : (((({ data := l.toArray } : ByteArray)[j]'hlt).toNat : Int) == 47) = true := by rw [beq_iff_eq]; show ((l[j]).toNat : Int) = 47; rw [hs]; rfl
          have HS' := Lib.hid (show (l.take (j + 1)).count 47 = ct + 1 by rw [HS.out, if_pos hs])
          clear hs
          go_wp2
          go_roundw
          case rel => exact ⟨j + 1, by omega, by go_num, by rw [HS'.out]; go_num, HR⟩
          case measure => simp [intOf]; omega
        · have hc : (((({ data := l.toArray } : ByteArray)[j]'hlt).toNat : Int) == 47) = false := by
            rw [beq_eq_false_iff_ne]; intro e; exact hs (UInt8.toNat_inj.1 (by change ((l[j]).toNat : Int) = 47 at e; simp; omega))
          have HS' := Lib.hid (show (l.take (j + 1)).count 47 = ct by rw [HS.out, if_neg hs]; omega)
          clear hs
          go_wp2
          go_roundw
          case rel => exact ⟨j + 1, by omega, by go_num, by rw [HS'.out], HR⟩
          case measure => simp [intOf]; omega
      · have hlt' : ¬ (j : Int) < (l.length : Int) := by omega
        have hjd : 1 + (l.take j).count 47 = d := by rw [HC.out, List.take_of_length_le (by omega)]
        rw [hjd]
        clear hjd hlt hj H2
        have hnn : ((d : Int) != (d : Int)) = false := by simp
        obtain ⟨nb, hnb'⟩ : ∃ nb, nb = nameB m := ⟨_, rfl⟩
        have hnb := Lib.hid hnb'
        clear hnb'
        by_cases h8 : d < 8
        · have h8' : (d : Int) < 8 := by omega
          have h8n : ¬ (8 : Int) ≤ (d : Int) := by omega
          cases hfm : fitB m with
          | false =>
            have HB := Lib.hid (show fitB (l ++ 47 :: m) = false by rw [HFB.out, hfm]; simp)
            have HFM := Lib.hid hfm
            clear hfm
            go_wp2_with fail
            refine (fit_wdb HR l m false HB.out hlm).mono ?_
            rintro e w3 ⟨rfl, H3⟩
            go_wp2_with fail
            refine (fit_wd H3 m false HFM.out hm).mono ?_
            rintro e w4 ⟨rfl, H4⟩
            go_wp2_with fail
            refine (name_wd H4 m nb hnb.out.symm hm).mono ?_
            rintro e w7 ⟨rfl, H7⟩
            cases nb with
            | false =>
              go_wp2_with fail
              refine (awake_wd H7).mono ?_
              rintro e w8 ⟨rfl, H8⟩
              go_wp2
              go_ret
              exact ⟨rfl, H8.below⟩
            | true =>
              have HD := Lib.hid (HDL.out hnb.out.symm h8)
              go_wp2_with fail
              refine (dir_wdb H7 l m l HD.out hlm).mono ?_
              rintro e w9 ⟨rfl, H9⟩
              have hll : (l == l) = true := by simp
              go_wp2_with fail
              refine (awake_wd H9).mono ?_
              rintro e w8 ⟨rfl, H8⟩
              go_wp2
              go_ret
              exact ⟨rfl, H8.below⟩
          | true =>
            have HB := Lib.hid (show fitB (l ++ 47 :: m) = decide ((splitL m).length ≤ 8 - d) by rw [HFB.out, hfm]; simp [h8])
            have HFM := Lib.hid hfm
            clear hfm
            obtain ⟨sm, hsm⟩ : ∃ sm, splitL m = sm := ⟨_, rfl⟩
            by_cases hle : sm.length ≤ 8 - d
            · have hle' : (sm.length : Int) ≤ 8 - (d : Int) := by omega
              have HB' := Lib.hid (show fitB (l ++ 47 :: m) = true by rw [HB.out, hsm]; simp [hle])
              go_wp2_with fail
              refine (fit_wdb HR l m true HB'.out hlm).mono ?_
              rintro e w3 ⟨rfl, H3⟩
              go_wp2_with fail
              refine (fit_wd H3 m true HFM.out hm).mono ?_
              rintro e w4 ⟨rfl, H4⟩
              go_wp2_with fail
              refine (split_wd H4 m sm hsm hm).mono ?_
              rintro e w5 ⟨v, rfl, ⟨a5, c5, rfl, _, _, _⟩, H5⟩
              go_wp2_with fail
              refine (name_wd H5 m nb hnb.out.symm hm).mono ?_
              rintro e w7 ⟨rfl, H7⟩
              cases nb with
              | false =>
                go_wp2_with fail
                refine (awake_wd H7).mono ?_
                rintro e w8 ⟨rfl, H8⟩
                go_wp2
                go_ret
                exact ⟨rfl, H8.below⟩
              | true =>
                have HD := Lib.hid (HDL.out hnb.out.symm h8)
                go_wp2_with fail
                refine (dir_wdb H7 l m l HD.out hlm).mono ?_
                rintro e w9 ⟨rfl, H9⟩
                have hll : (l == l) = true := by simp
                go_wp2_with fail
                refine (awake_wd H9).mono ?_
                rintro e w8 ⟨rfl, H8⟩
                go_wp2
                go_ret
                exact ⟨rfl, H8.below⟩
            · have hle' : ¬ (sm.length : Int) ≤ 8 - (d : Int) := by omega
              have HB' := Lib.hid (show fitB (l ++ 47 :: m) = false by rw [HB.out, hsm]; simp [hle])
              go_wp2_with fail
              refine (fit_wdb HR l m false HB'.out hlm).mono ?_
              rintro e w3 ⟨rfl, H3⟩
              go_wp2_with fail
              refine (fit_wd H3 m true HFM.out hm).mono ?_
              rintro e w4 ⟨rfl, H4⟩
              go_wp2_with fail
              refine (split_wd H4 m sm hsm hm).mono ?_
              rintro e w5 ⟨v, rfl, ⟨a5, c5, rfl, _, _, _⟩, H5⟩
              go_wp2_with fail
              refine (name_wd H5 m nb hnb.out.symm hm).mono ?_
              rintro e w7 ⟨rfl, H7⟩
              cases nb with
              | false =>
                go_wp2_with fail
                refine (awake_wd H7).mono ?_
                rintro e w8 ⟨rfl, H8⟩
                go_wp2
                go_ret
                exact ⟨rfl, H8.below⟩
              | true =>
                have HD := Lib.hid (HDL.out hnb.out.symm h8)
                go_wp2_with fail
                refine (dir_wdb H7 l m l HD.out hlm).mono ?_
                rintro e w9 ⟨rfl, H9⟩
                have hll : (l == l) = true := by simp
                go_wp2_with fail
                refine (awake_wd H9).mono ?_
                rintro e w8 ⟨rfl, H8⟩
                go_wp2
                go_ret
                exact ⟨rfl, H8.below⟩
        · have h8' : ¬ (d : Int) < 8 := by omega
          have h8n : (8 : Int) ≤ (d : Int) := by omega
          have HB := Lib.hid (show fitB (l ++ 47 :: m) = false by rw [HFB.out]; simp [h8])
          go_wp2_with fail
          refine (fit_wdb HR l m false HB.out hlm).mono ?_
          rintro e w3 ⟨rfl, H3⟩
          go_wp2_with fail
          refine (name_wd H3 m nb hnb.out.symm hm).mono ?_
          rintro e w7 ⟨rfl, H7⟩
          cases nb with
          | false =>
            go_wp2_with fail
            refine (awake_wd H7).mono ?_
            rintro e w8 ⟨rfl, H8⟩
            go_wp2
            go_ret
            exact ⟨rfl, H8.below⟩
          | true =>
            go_wp2_with fail
            refine (awake_wd H7).mono ?_
            rintro e w8 ⟨rfl, H8⟩
            go_wp2
            go_ret
            exact ⟨rfl, H8.below⟩

set_option maxHeartbeats 4000000 in
set_option maxRecDepth 100000 in
theorem joins_walk (v : Value) (ns : List (List UInt8)) (w : World) (hM : Mx w) (hr : StrRow w v ns) :
    Calls Tryd.prog 6 #[v] w fun e w' => e = .returned (.bool true) ∧ Below w.heap.size w w' := by
  have H0 := Wd.start hM
  have hr0 := hr
  obtain ⟨a, c, rfl, hc, hm, hx⟩ := hr
  have HX := Lib.hid hx
  clear hx
  by_cases h1 : (30 : Int) < (ns.length : Int)
  · go_enter Tryd.func6, Tryd.ntmps6
    go_wp2_with (go_at_call 8; refine (awake_wd H0).mono ?_; rintro e w1 ⟨rfl, hb⟩)
    go_ret
    exact ⟨rfl, hb.below⟩
  have hlen : ns.length ≤ 30 := by omega
  go_enter Tryd.func6, Tryd.ntmps6
  go_wp2
  go_loopw [4, 11] (fun _ i wr => ∃ k : Nat, k ≤ ns.length ∧ i = .int .i64 k ∧ (∀ p ∈ ns.take k, p.length ≤ 100) ∧ Wd w wr) (fun _ i _ => ns.length - (intOf i).toNat)
  case atStart => exact ⟨0, Nat.zero_le _, rfl, by simp, H0⟩
  case round =>
    obtain ⟨k, hk, rfl, ht, HR⟩ := hrel
    have HT := Lib.hid ht
    clear ht
    by_cases hlt : k < ns.length
    · have hx := HX.out
      rcases hx with hx | ⟨b, o, rfl, hx⟩
      · exfalso; rw [hx] at hlt; simp at hlt
      have hcx := cell_below HR.below (hx k ns[k] (by simp [hlt]))
      have HS := Lib.hid (fun h : ns[k].length ≤ 100 => (show ∀ p ∈ ns.take (k + 1), p.length ≤ 100 by
        intro p hp; rw [List.take_succ_eq_append_getElem hlt, List.mem_append] at hp
        rcases hp with hp | hp
        · exact HT.out p hp
        · simp at hp; rw [hp]; exact h))
      clear hx
      generalize ns[k] = p at *
      have hlt' : (k : Int) < (ns.length : Int) := by omega
      by_cases hp : (100 : Int) < (p.length : Int)
      · go_wp2_with fail
        refine (awake_wd HR).mono ?_
        rintro e w1 ⟨rfl, hb⟩
        go_wp2
        go_ret
        exact ⟨rfl, hb.below⟩
      · have HS' := Lib.hid (HS.out (by omega))
        go_wp2
        go_roundw
        case rel => exact ⟨k + 1, by omega, by go_num, HS'.out, HR⟩
        case measure => simp [intOf]; omega
    · have hlt' : ¬ (k : Int) < (ns.length : Int) := by omega
      have HL := Lib.hid (show ∀ p ∈ ns, p.length ≤ 1000000 by
        intro p hp; have := HT.out p (by rw [List.take_of_length_le (by omega)]; exact hp); omega)
      obtain ⟨jl, hjl⟩ : ∃ jl, joinL ns = jl := ⟨_, rfl⟩
      have hrr := hr0.below HR.below
      have hjj : (jl == jl) = true := by simp
      clear hr0
      go_wp2_with fail
      refine (join_walk _ ns wr hrr HL.out (by omega)).mono ?_
      rintro e w1 ⟨rfl, hb1⟩
      have H1 := HR.next hb1
      have hrr' := hrr.below hb1
      clear hb1 hrr
      rw [hjl]
      go_wp2_with fail
      refine (rjoin_walk _ ns w1 hrr' HL.out (by omega)).mono ?_
      rintro e w2 ⟨rfl, rfl⟩
      rw [hjl]
      go_wp2_with fail
      refine (awake_wd H1).mono ?_
      rintro e w8 ⟨rfl, H8⟩
      go_wp2
      go_ret
      exact ⟨rfl, H8.below⟩
end Go.Proofs.YtdenbjjpchmoaaaDoor
