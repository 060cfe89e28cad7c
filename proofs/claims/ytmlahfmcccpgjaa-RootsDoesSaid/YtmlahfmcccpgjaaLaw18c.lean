/- Chapter 18: records, there and back. -/
import Derived.Test.YtmlahfmcccpgjaaLaw18b
import Derived.Test.YtmlahfmcccpgjaaRootsLaws3
namespace Go.Proofs.Ytmlahfmcccpgjaa
open Go.RowKit

theorem rev_step {l : List Snp} {j : Nat} (h : j < l.length) : (l.drop j).reverse.map (fun x => recordR x false) = (l.drop (j + 1)).reverse.map (fun x => recordR x false) ++ [recordR l[j] false] := by
  rw [List.drop_eq_getElem_cons h, List.reverse_cons, List.map_append]; rfl

theorem own_later {w w' : World} {base e k n : Nat} {v : Value} {xs : List Value} (h : w.ownsRow base e k v n xs) (hb : Below w.heap.size w w') : w'.ownsRow base e k v n xs :=
  h.kept (grown_of_below hb) (by
    rcases h.2 with ⟨h, _⟩ | ⟨g, cap, cur, h, _⟩
    · rw [h]; exact .inl rfl
    · rw [h]; exact .inr (by simp [Value.ownBlock]))
theorem record_len {x : Snp} (g : Bool) (h1 : x.1.length ≤ 100) (h2 : x.2.length ≤ 100) : (recordR x g).length ≤ 1000 := by
  have h3 := putV_len (n := x.1.length) (by omega)
  have h4 : (putText x.1).length ≤ 200 := by
    unfold putText
    split
    · simp
    · rw [List.length_append]; omega
  unfold recordR
  split
  · simp
  split
  · simp; omega
  · simp; omega

set_option maxHeartbeats 4000000 in
set_option maxRecDepth 100000 in
theorem rback_walk (v : Value) (l : List Snp) (which : Nat) (x : Snp) (w : World) (hr : SnpRow w v l) (hwh : which < 256) :
    Calls Try.prog 4 #[v, .int .u8 which, SnpV x] w fun e w' => e = .returned (.bool true) ∧ Below w.heap.size w w' := by
  obtain ⟨p, q⟩ := x
  obtain ⟨i0, hi, hz0, hz1, hz2⟩ := info_parts infoStr
  obtain ⟨w0, hw0⟩ : ∃ w0, w0 = w.alloc (.cells #[S p, S q] 31) := ⟨_, rfl⟩
  have hB0 : Below w.heap.size w w0 := by rw [hw0]; exact (Below.refl _ _).alloc (Nat.le_refl _) _
  have hx1 : w0.cell? ⟨w.heap.size, 0, none⟩ = some (S p) := by rw [hw0]; exact cell_new w _ _ _ rfl
  have hx2 : w0.cell? ⟨w.heap.size, 1, none⟩ = some (S q) := by rw [hw0]; exact cell_new w _ _ _ rfl
  have hr0 := hr.below hB0
  have hs0 : w.heap.size + 1 ≤ w0.heap.size := by rw [hw0]; simp
  have HR0 := Lib.hid hr0
  have C1 := few18_walk v l w0 hr0
  obtain ⟨a, c, rfl, hc, hm, hx⟩ := hr
  clear hx hr0
  cases hf1 : fewL l with
  | false =>
    rw [hf1] at C1
    clear hf1
    go_enter Try.func4, Try.ntmps4
    go_wp2_with fail
    rw [← hw0]
    refine C1.mono ?_
    rintro e w1 ⟨rfl, hb1⟩
    have hB1 := below_chain hB0 hb1 hB0.size
    clear hw0
    go_wp2_with (go_at_call 9; refine (awake18_walk _).mono ?_; rintro e w2 ⟨rfl, hb2⟩)
    go_ret
    exact ⟨rfl, below_chain hB1 hb2 hB1.size⟩
  | true =>
    rw [hf1] at C1
    obtain ⟨hl25, hlen⟩ := fewL_parts hf1
    have HLEN := Lib.hid hlen
    clear hf1 hlen
    cases hf2 : fewL [(p, q)] with
    | false =>
      have HF2 := Lib.hid hf2
      clear hf2
      go_enter Try.func4, Try.ntmps4
      go_wp2_with fail
      rw [← hw0]
      refine C1.mono ?_
      rintro e w1 ⟨rfl, hb1⟩
      have hB1 := below_chain hB0 hb1 hB0.size
      have kx1 := cell_below hb1 hx1
      have kx2 := cell_below hb1 hx2
      clear hw0
      go_wp2_with fail
      refine (few18_walk _ _ _ (row_one w1 (p, q))).mono ?_
      rintro e w2 ⟨rfl, hb2⟩
      rw [HF2.out]
      have hB2 := below_chain (hB1.alloc hB1.size (.cells #[S p, S q] 31)) hb2 (by have := hB1.size; simp; omega)
      go_wp2_with (go_at_call 9; refine (awake18_walk _).mono ?_; rintro e w3 ⟨rfl, hb3⟩)
      go_ret
      exact ⟨rfl, below_chain hB2 hb3 hB2.size⟩
    | true =>
      have hxl := fewL_parts hf2
      have hxp : p.length ≤ 1000000 ∧ q.length ≤ 1000000 := by have := hxl.2 (p, q) (by simp); simp only at this; omega
      have HF2 := Lib.hid hf2
      clear hf2 hxl
      have HL2 := Lib.hid (show ∀ z ∈ l, z.1.length ≤ 1000000 ∧ z.2.length ≤ 1000000 by intro z hz; have := HLEN.out z hz; omega)
      go_enter Try.func4, Try.ntmps4
      go_wp2_with fail
      rw [← hw0]
      refine C1.mono ?_
      rintro e w1 ⟨rfl, hb1⟩
      have hB1 := below_chain hB0 hb1 hB0.size
      have kx1 := cell_below hb1 hx1
      have kx2 := cell_below hb1 hx2
      have kr := HR0.out.below hb1
      clear hw0 hx1 hx2 hb1 C1
      go_wp2_with fail
      refine (few18_walk _ _ _ (row_one w1 (p, q))).mono ?_
      rintro e w2 ⟨rfl, hb2⟩
      rw [HF2.out]
      have hB2 := below_chain (hB1.alloc hB1.size (.cells #[S p, S q] 31)) hb2 (by have := hB1.size; simp; omega)
      have hba := (Below.refl w1.heap.size w1).alloc (Nat.le_refl _) (.cells #[S p, S q] 31)
      have hb2' := below_chain hba hb2 (by simp)
      replace kx1 := cell_below hb2' kx1
      replace kx2 := cell_below hb2' kx2
      replace kr := kr.below hb2'
      clear hb2' hb2 hba hB1
      go_wp2_with fail
      refine (r18fit_walk _ l w2 kr (by omega) HL2.out).mono ?_
      rintro e w3 ⟨rfl, hb3⟩
      have hB3 := below_chain hB2 hb3 hB2.size
      replace kx1 := cell_below hb3 kx1
      replace kx2 := cell_below hb3 kx2
      replace kr := kr.below hb3
      have hz3 : w.heap.size + 1 ≤ w3.heap.size := by have := lt_of_cell kx1; omega
      clear hb3 hB2
      cases hfit : fitR l with
      | false =>
        go_wp2_with (go_at_call 9; refine (awake18_walk _).mono ?_; rintro e w4 ⟨rfl, hb4⟩)
        go_ret
        exact ⟨rfl, below_chain hB3 hb4 hB3.size⟩
      | true =>
        have HFIT := Lib.hid hfit
        have hll : l.length ≤ 20 := (fitR_parts hfit).1
        clear hfit hl25
        have HKR := Lib.hid kr
        have HKX := Lib.hid (And.intro kx1 kx2)
        clear kr kx1 kx2
        go_wp2
        go_loopw [7, 8] (fun v i wr => ∃ (k : Nat) (dn : List (List UInt8)), k ≤ l.length ∧ i = .int .i64 ((k : Int) - 1) ∧ dn = (l.drop k).reverse.map (fun x => recordR x false) ∧ dn.length ≤ 20 ∧ wr.ownsRow w3.heap.size 9 1 v dn.length (dn.map S) ∧ Below w3.heap.size w3 wr) (fun _ i _ => (intOf i + 1).toNat)
        case atStart => exact ⟨l.length, [], Nat.le_refl _, rfl, by simp, by simp, World.ownsRow_nil _ _ _ _, Below.refl _ _⟩
        case round =>
          obtain ⟨k, dn, hk, hi8, hdn, hdl, hown, hBw⟩ := hrel
          have HI8 := Lib.hid hi8
          clear hi8
          have hsw := hBw.size
          have HDN := Lib.hid hdn
          have hkr := HKR.out.below hBw
          clear hdn
          cases k with
          | succ j =>
            obtain rfl : u8 = .int .i64 (j : Int) := by rw [HI8.out]; congr 1; omega
            clear HI8
            have h1 : j < l.length := by omega
            have h1' : (0 : Int) ≤ (j : Int) := by omega
            have h2' : (j : Int) < (l.length : Int) := by omega
            obtain ⟨_, _, hv, _, _, hx⟩ := hkr
            cases hv
            rcases hx with hx | ⟨b, o, rfl, hx⟩
            · exfalso; rw [hx] at h1; simp at h1
            obtain ⟨hc1, hc2⟩ := snp_cells hx h1
            have hll2 := HL2.out l[j] (by simp)
            have HS := Lib.hid (show (l.drop j).reverse.map (fun x => recordR x false) = dn ++ [recordR l[j] false] by rw [rev_step h1, ← HDN.out])
            have CR := fun w => precord_walk l[j] false w hll2.1 hll2.2
            generalize recordR l[j] false = rc at *
            generalize l[j] = y at *
            obtain ⟨p0, q0⟩ := y
            clear hx hll2
            go_wp2_with fail
            refine (CR _).mono ?_
            rintro e w4 ⟨rfl, hb4⟩
            have hown4 := hown.kept (grown_of_below hb4) (by
              rcases hown.2 with ⟨h, _⟩ | ⟨g, cap, cur, h, _⟩
              · rw [h]; exact .inl rfl
              · rw [h]; exact .inr (by simp [Value.ownBlock]))
            have hB4 := below_chain hBw hb4 hBw.size
            have hs4 := hB4.size
            clear hc1 hc2 hown hb4 CR
            go_wp2_with (at_builtin; refine wpList_append_own _ rfl _ _ 22 rfl w3.heap.size 9 i0 (.string ⟨#[]⟩) 1 16 Try.underlying22 hi hz0 hz1 hz2 rfl (by decide) _ _ _ rfl (hown4.alloc _) ⟨w4.heap.size, 0, none⟩ 1 1 [S rc] rfl rfl (new_cell_at rfl _ _) (by intro u hu; simp at hu; subst hu; rfl) (by unfold maxLen; omega) (by omega) (by simp; omega) ?_)
            intro v' w5 hown' hgrow _
            have hB5 : Below w3.heap.size w3 w5 := (hB4.alloc hs4 _).grown hgrow (by simp; omega) (fun j hj => (hown4.lt j hj).1)
            clear hgrow hown4 hB4
            go_wp2
            go_roundw
            case rel => exact ⟨j, dn ++ [rc], by omega, by go_num, HS.out.symm, by have h := congrArg List.length HS.out; simp at h ⊢; omega, by rw [List.length_append, List.map_append]; exact hown', hB5⟩
            case measure => simp [intOf]
          | zero =>
            obtain rfl : u8 = .int .i64 (-1) := HI8.out
            clear HI8
            have hneg : ¬ (0 : Int) ≤ -1 := by omega
            rw [List.drop_zero] at HDN
            have hl1 : dn = l.reverse.map (fun x => recordR x false) := HDN.out
            have hdlen : ∀ z ∈ dn, z.length ≤ 1000000 := by
              intro z hz
              rw [hl1, List.mem_map] at hz
              obtain ⟨y, hy, rfl⟩ := hz
              have := HLEN.out y (by simpa using hy)
              have := record_len false this.1 this.2
              omega
            have CRP := preplay_walk u7 dn wr (StrRow.of_owns hown) (by omega) hdlen
            rw [show replayR [] 0 dn = (l, l.length) by rw [hl1]; exact replay_all HFIT.out] at CRP
            simp only at CRP
            have HDL := Lib.hid hdlen
            clear hl1 hdlen
            have kx1 := cell_below hBw HKX.out.1
            have kx2 := cell_below hBw HKX.out.2
            have kr := HKR.out.below hBw
            have ko := hown
            have hs3 : w3.heap.size ≤ wr.heap.size := hBw.size
            have hBB := below_chain hB3 hBw hB3.size
            clear hown hBw hkr hB3
            go_wp2_with fail
            refine CRP.mono ?_
            rintro e w4 ⟨va, rfl, ra, hb4⟩
            replace hBB := below_chain hBB hb4 hBB.size
            replace kx1 := cell_below hb4 kx1
            replace kx2 := cell_below hb4 kx2
            replace kr := kr.below hb4
            replace ko := own_later ko hb4
            replace hs3 := Nat.le_trans hs3 hb4.size
            clear hb4 CRP
            have C5 := r18same_walk va _ l l w4 ra kr (by omega)
            rw [show (l == l) = true by simp] at C5
            have hnn : ((l.length : Int) != (l.length : Int)) = false := by simp
            go_wp2_with fail
            refine C5.mono ?_
            rintro e w5 ⟨rfl, hb5⟩
            replace hBB := below_chain hBB hb5 hBB.size
            replace kx1 := cell_below hb5 kx1
            replace kx2 := cell_below hb5 kx2
            replace kr := kr.below hb5
            replace ko := own_later ko hb5
            replace hs3 := Nat.le_trans hs3 hb5.size
            clear hb5 C5 ra
            have HUP := Lib.hid (upS_of l (fitR_parts HFIT.out).2.2)
            have C6 := pput18_walk _ l (p, q) w5 kr (by omega) hxp.1 hxp.2 HUP.out
            have HPO := Lib.hid (fun h => putE_ok (l := l) (x := (p, q)) h)
            have HPF := Lib.hid (fitR_put HFIT.out (p, q))
            generalize putE l (p, q) = pr at *
            obtain ⟨lb, eb⟩ := pr
            simp only at C6 HPO HPF
            by_cases he : eb = 0
            · subst he
              obtain ⟨hlb, hnm, _, _, _⟩ := HPO.out rfl
              (try simp only at hlb hnm)
              have hfi := find_ins (l := l) (x := (p, q)) hnm
              have hdi := drop_ins (l := l) (x := (p, q)) hnm
              have hlbl := (fitR_parts HPF.out).1
              have hlbu := upS_of _ (fitR_parts HPF.out).2.2
              rw [← hlb] at hfi hdi
              have HFI := Lib.hid hfi
              have HDI := Lib.hid (show dropE lb p = (l, 0) by unfold dropE; rw [show findR lb p = some q from hfi]; simp only [Option.isSome_some, if_true]; rw [show dropL1 lb p = l from hdi])
              have HLU := Lib.hid hlbu
              clear hlb hnm hfi hdi hlbu HPO
              go_wp2_with fail
              refine C6.mono ?_
              rintro e w6 ⟨vb, rfl, rb, hb6⟩
              replace hBB := below_chain hBB hb6 hBB.size
              replace kx1 := cell_below hb6 kx1
              replace kx2 := cell_below hb6 kx2
              replace kr := kr.below hb6
              replace ko := own_later ko hb6
              replace hs3 := Nat.le_trans hs3 hb6.size
              clear hb6
              have C7 := pfind_walk vb lb p w6 rb (by omega) HLU.out
              rw [show findR lb p = some q from HFI.out] at C7
              simp only [rootOf, Option.isSome_some] at C7
              go_wp2_with fail
              refine C7.mono ?_
              rintro e w7 ⟨rfl, hb7⟩
              replace hBB := below_chain hBB hb7 hBB.size
              replace kx1 := cell_below hb7 kx1
              replace kx2 := cell_below hb7 kx2
              replace kr := kr.below hb7
              replace ko := own_later ko hb7
              replace hs3 := Nat.le_trans hs3 hb7.size
              replace rb := rb.below hb7
              clear hb7 C7
              have C8 := pdrop_walk vb lb p w7 rb (by omega) HLU.out
              rw [HDI.out] at C8
              simp only at C8
              go_wp2_with fail
              refine C8.mono ?_
              rintro e w8 ⟨vc, rfl, rc, hb8⟩
              replace hBB := below_chain hBB hb8 hBB.size
              replace kx1 := cell_below hb8 kx1
              replace kx2 := cell_below hb8 kx2
              replace kr := kr.below hb8
              replace ko := own_later ko hb8
              replace hs3 := Nat.le_trans hs3 hb8.size
              clear hb8 C8 rb
              have C9 := r18same_walk vc _ l l w8 rc kr (by omega)
              rw [show (l == l) = true by simp] at C9
              have hqq : (q == q) = true := by simp
              go_wp2_with fail
              refine C9.mono ?_
              rintro e wq ⟨rfl, hb10⟩
              replace hBB := below_chain hBB hb10 hBB.size
              replace kr := kr.below hb10
              replace ko := own_later ko hb10
              replace hs3 := Nat.le_trans hs3 hb10.size
              clear hb10 C9 rc hqq
              by_cases hl0 : l = []
              · subst hl0
                go_wp2_with (go_at_call 9; refine (awake18_walk _).mono ?_; rintro e w9 ⟨rfl, hb9⟩)
                go_ret
                exact ⟨rfl, below_chain hBB hb9 hBB.size⟩
              · have hlp : 0 < l.length := List.length_pos_iff.2 hl0
                have hlz : ((l.length : Int) == 0) = false := by rw [beq_eq_false_iff_ne]; omega
                have hkm : which % l.length < l.length := Nat.mod_lt _ hlp
                have hmod : (which : Int).tmod (l.length : Int) = ((which % l.length : Nat) : Int) := by rw [Int.tmod_eq_emod_of_nonneg (by omega)]; omega
                have hmod2 : (which : Int) % (l.length : Int) = ((which % l.length : Nat) : Int) := by omega
                have hl0' : ¬ (l.length : Int) = 0 := by omega
                have HM := Lib.hid (replay_more (y := l[which % l.length]) HFIT.out (by simp))
                have hgo := drop_gone l l[which % l.length].1
                have hdle := drop_len l l[which % l.length].1 (up_pairs _ (fitR_parts HFIT.out).2.2) (List.mem_map_of_mem (by simp))
                have hdu : upS (namesR (dropL1 l l[which % l.length].1)) := by unfold upS namesR dropL1; rw [List.pairwise_map]; exact (up_pairs _ (fitR_parts HFIT.out).2.2).filter _
                clear hl0
                obtain ⟨_, _, hv, _, _, hx⟩ := kr
                cases hv
                rcases hx with hx | ⟨b, o, rfl, hx⟩
                · exfalso; rw [hx] at hlp; simp at hlp
                obtain ⟨hc1, hc2⟩ := snp_cells hx hkm
                have hyl := HLEN.out l[which % l.length] (by simp)
                have HYL := Lib.hid (record_len true hyl.1 hyl.2)
                have CR := fun w => precord_walk l[which % l.length] true w (by omega) (by omega)
                have hkI : ((which % l.length : Nat) : Int) < (l.length : Int) := by omega
                clear hx hyl
                generalize recordR l[which % l.length] true = rc at *
                generalize l[which % l.length] = y at *
                obtain ⟨yp, yq⟩ := y
                (try simp only at HM hgo hdle hdu)
                have HGO := Lib.hid hgo
                have HDE := Lib.hid hdle
                have HDU := Lib.hid hdu
                clear hgo hdle hdu
                generalize which % l.length = km at *
                go_wp2_with fail
                refine (CR _).mono ?_
                rintro e wz ⟨rfl, hbz⟩
                have hBz := below_chain (hBB.alloc hBB.size (.cells #[S yp, S yq] 31)) hbz (by have := hBB.size; simp; omega)
                have kk1 := cell_below hbz (cell_new wq #[S yp, S yq] 31 0 rfl)
                have kz := own_later (ko.alloc (.cells #[S yp, S yq] 31)) hbz
                have hqz : wq.heap.size + 1 ≤ wz.heap.size := by have := hbz.size; simpa using this
                have HLT := Lib.hid ko.lt
                have hq3 : w3.heap.size ≤ wq.heap.size := hs3
                clear hc1 hc2 hbz CR ko
                go_wp2_with (at_builtin; refine wpList_append_own _ rfl _ _ 22 rfl w3.heap.size 9 i0 (.string ⟨#[]⟩) 1 16 Try.underlying22 hi hz0 hz1 hz2 rfl (by decide) _ _ _ rfl (kz.alloc _) ⟨wz.heap.size, 0, none⟩ 1 1 [S rc] rfl rfl (new_cell_at rfl _ _) (by intro u hu; simp at hu; subst hu; rfl) (by unfold maxLen; omega) (by omega) (by simp; omega) ?_)
                intro v' wy hown' hgrow _
                have hBy : Below w.heap.size w wy := (hBz.alloc hBz.size _).grown hgrow (by have := hBz.size; simp; omega) (fun j hj => by have := (HLT.out j hj).1; omega)
                have ky := hgrow.cell (a := ⟨wq.heap.size, 0, none⟩) (cell_old kk1 _) (fun e => by have := (HLT.out _ e.symm).2; simp at this)
                have hrow : StrRow wy v' (dn ++ [rc]) := StrRow.of_owns (by rw [List.length_append, List.map_append]; exact hown')
                have hall : ∀ z ∈ dn ++ [rc], z.length ≤ 1000000 := by
                  intro z hz
                  rcases List.mem_append.1 hz with h | h
                  · exact HDL.out z h
                  · rw [List.mem_singleton.1 h]; have := HYL.out; omega
                have CRR := preplay_walk v' (dn ++ [rc]) wy hrow (by simp; omega) hall
                rw [show replayR [] 0 (dn ++ [rc]) = (dropL1 l yp, l.length + 1) by rw [HDN.out]; exact HM.out] at CRR
                simp only at CRR
                clear hgrow hown' kz kk1 hrow hall hBz
                generalize dropL1 l yp = dl at *
                have hdl2 := HDE.out
                go_wp2_with fail
                refine CRR.mono ?_
                rintro e wx ⟨vb2, rfl, rb2, hbx⟩
                replace hBy := below_chain hBy hbx hBy.size
                replace ky := cell_below hbx ky
                have CF := pfind_walk vb2 dl yp wx rb2 (by omega) HDU.out
                rw [HGO.out] at CF
                simp only [rootOf, Option.isSome_none] at CF
                clear hbx CRR
                obtain ⟨ab, cb, rfl, _, _, _⟩ := rb2
                have hm1 : (((l.length + 1 : Nat) : Int) == (l.length : Int) + 1) = true := by rw [beq_iff_eq]; omega
                have hm2 : ((dl.length : Int) == (l.length : Int) - 1) = true := by rw [beq_iff_eq]; omega
                clear hdl2
                go_wp2_with fail
                refine CF.mono ?_
                rintro e wu ⟨rfl, hbu⟩
                replace hBy := below_chain hBy hbu hBy.size
                clear CF hbu
                go_wp2_with (go_at_call 9; refine (awake18_walk _).mono ?_; rintro e wt ⟨rfl, hbt⟩)
                go_ret
                exact ⟨rfl, below_chain hBy hbt hBy.size⟩
            · have he2 : (eb == 0) = false := by rw [beq_eq_false_iff_ne]; exact he
              clear he HPO HPF
              go_wp2_with fail
              refine C6.mono ?_
              rintro e wq ⟨vb, rfl, _, hb6⟩
              replace hBB := below_chain hBB hb6 hBB.size
              replace kr := kr.below hb6
              replace ko := own_later ko hb6
              replace hs3 := Nat.le_trans hs3 hb6.size
              clear hb6
              by_cases hl0 : l = []
              · subst hl0
                go_wp2_with (go_at_call 9; refine (awake18_walk _).mono ?_; rintro e w9 ⟨rfl, hb9⟩)
                go_ret
                exact ⟨rfl, below_chain hBB hb9 hBB.size⟩
              · have hlp : 0 < l.length := List.length_pos_iff.2 hl0
                have hlz : ((l.length : Int) == 0) = false := by rw [beq_eq_false_iff_ne]; omega
                have hkm : which % l.length < l.length := Nat.mod_lt _ hlp
                have hmod : (which : Int).tmod (l.length : Int) = ((which % l.length : Nat) : Int) := by rw [Int.tmod_eq_emod_of_nonneg (by omega)]; omega
                have hmod2 : (which : Int) % (l.length : Int) = ((which % l.length : Nat) : Int) := by omega
                have hl0' : ¬ (l.length : Int) = 0 := by omega
                have HM := Lib.hid (replay_more (y := l[which % l.length]) HFIT.out (by simp))
                have hgo := drop_gone l l[which % l.length].1
                have hdle := drop_len l l[which % l.length].1 (up_pairs _ (fitR_parts HFIT.out).2.2) (List.mem_map_of_mem (by simp))
                have hdu : upS (namesR (dropL1 l l[which % l.length].1)) := by unfold upS namesR dropL1; rw [List.pairwise_map]; exact (up_pairs _ (fitR_parts HFIT.out).2.2).filter _
                clear hl0
                obtain ⟨_, _, hv, _, _, hx⟩ := kr
                cases hv
                rcases hx with hx | ⟨b, o, rfl, hx⟩
                · exfalso; rw [hx] at hlp; simp at hlp
                obtain ⟨hc1, hc2⟩ := snp_cells hx hkm
                have hyl := HLEN.out l[which % l.length] (by simp)
                have HYL := Lib.hid (record_len true hyl.1 hyl.2)
                have CR := fun w => precord_walk l[which % l.length] true w (by omega) (by omega)
                have hkI : ((which % l.length : Nat) : Int) < (l.length : Int) := by omega
                clear hx hyl
                generalize recordR l[which % l.length] true = rc at *
                generalize l[which % l.length] = y at *
                obtain ⟨yp, yq⟩ := y
                (try simp only at HM hgo hdle hdu)
                have HGO := Lib.hid hgo
                have HDE := Lib.hid hdle
                have HDU := Lib.hid hdu
                clear hgo hdle hdu
                generalize which % l.length = km at *
                go_wp2_with fail
                refine (CR _).mono ?_
                rintro e wz ⟨rfl, hbz⟩
                have hBz := below_chain (hBB.alloc hBB.size (.cells #[S yp, S yq] 31)) hbz (by have := hBB.size; simp; omega)
                have kk1 := cell_below hbz (cell_new wq #[S yp, S yq] 31 0 rfl)
                have kz := own_later (ko.alloc (.cells #[S yp, S yq] 31)) hbz
                have hqz : wq.heap.size + 1 ≤ wz.heap.size := by have := hbz.size; simpa using this
                have HLT := Lib.hid ko.lt
                have hq3 : w3.heap.size ≤ wq.heap.size := hs3
                clear hc1 hc2 hbz CR ko
                go_wp2_with (at_builtin; refine wpList_append_own _ rfl _ _ 22 rfl w3.heap.size 9 i0 (.string ⟨#[]⟩) 1 16 Try.underlying22 hi hz0 hz1 hz2 rfl (by decide) _ _ _ rfl (kz.alloc _) ⟨wz.heap.size, 0, none⟩ 1 1 [S rc] rfl rfl (new_cell_at rfl _ _) (by intro u hu; simp at hu; subst hu; rfl) (by unfold maxLen; omega) (by omega) (by simp; omega) ?_)
                intro v' wy hown' hgrow _
                have hBy : Below w.heap.size w wy := (hBz.alloc hBz.size _).grown hgrow (by have := hBz.size; simp; omega) (fun j hj => by have := (HLT.out j hj).1; omega)
                have ky := hgrow.cell (a := ⟨wq.heap.size, 0, none⟩) (cell_old kk1 _) (fun e => by have := (HLT.out _ e.symm).2; simp at this)
                have hrow : StrRow wy v' (dn ++ [rc]) := StrRow.of_owns (by rw [List.length_append, List.map_append]; exact hown')
                have hall : ∀ z ∈ dn ++ [rc], z.length ≤ 1000000 := by
                  intro z hz
                  rcases List.mem_append.1 hz with h | h
                  · exact HDL.out z h
                  · rw [List.mem_singleton.1 h]; have := HYL.out; omega
                have CRR := preplay_walk v' (dn ++ [rc]) wy hrow (by simp; omega) hall
                rw [show replayR [] 0 (dn ++ [rc]) = (dropL1 l yp, l.length + 1) by rw [HDN.out]; exact HM.out] at CRR
                simp only at CRR
                clear hgrow hown' kz kk1 hrow hall hBz
                generalize dropL1 l yp = dl at *
                have hdl2 := HDE.out
                go_wp2_with fail
                refine CRR.mono ?_
                rintro e wx ⟨vb2, rfl, rb2, hbx⟩
                replace hBy := below_chain hBy hbx hBy.size
                replace ky := cell_below hbx ky
                have CF := pfind_walk vb2 dl yp wx rb2 (by omega) HDU.out
                rw [HGO.out] at CF
                simp only [rootOf, Option.isSome_none] at CF
                clear hbx CRR
                obtain ⟨ab, cb, rfl, _, _, _⟩ := rb2
                have hm1 : (((l.length + 1 : Nat) : Int) == (l.length : Int) + 1) = true := by rw [beq_iff_eq]; omega
                have hm2 : ((dl.length : Int) == (l.length : Int) - 1) = true := by rw [beq_iff_eq]; omega
                clear hdl2
                go_wp2_with fail
                refine CF.mono ?_
                rintro e wu ⟨rfl, hbu⟩
                replace hBy := below_chain hBy hbu hBy.size
                clear CF hbu
                go_wp2_with (go_at_call 9; refine (awake18_walk _).mono ?_; rintro e wt ⟨rfl, hbt⟩)
                go_ret
                exact ⟨rfl, below_chain hBy hbt hBy.size⟩
end Go.Proofs.Ytmlahfmcccpgjaa
