/- What is reached, the reference's. -/
import Derived.Test.YtengciicdnkgaaaGreatDoorReachPlain
import Derived.Test.YtengciicdnkgaaaGreatDoorJRK
import Derived.Test.YtengciicdnkgaaaGreatDoorRObj
import Derived.Test.YtengciicdnkgaaaGreatDoorR11f
namespace Go.Proofs.YtengciicdnkgaaaGreatDoor
open Go.RowKit

def ReachPost (o : List Snp) (l : List (List UInt8)) (w : World) (e : Ending) (w' : World) : Prop :=
  ∃ v Q, e = .returned (.tuple #[v, .bool (Q.all (okO o))]) ∧ StrRow w' v Q ∧ upS Q ∧ (∀ x, x ∈ Q ↔ Reached o (seedP l) x) ∧ Below w.heap.size w w'
theorem all_setOf {f : List UInt8 → Bool} {q : List (List UInt8)} (h : ∀ x ∈ q, x.length = 32) : (setOf q).all f = q.all f := by
  rw [Bool.eq_iff_iff, List.all_eq_true, List.all_eq_true]
  constructor
  · intro h1 x hx; exact h1 x (setOf_mem.2 ⟨hx, h x hx⟩)
  · intro h1 x hx; exact h1 x (setOf_mem.1 hx).1

set_option maxHeartbeats 8000000 in
set_option maxRecDepth 100000 in
theorem rreach_walk (ov v : Value) (o : List Snp) (l : List (List UInt8)) (w : World) (ho : SnpRow w ov o) (hr : StrRow w v l) (hol : o.length ≤ 1100000) (hraw : ∀ x ∈ o, x.2.length ≤ 1000000) (hcnt : 32 * l.length + rawsL o ≤ 32 * 1000000) :
    Calls Tryz.prog 15 #[ov, v] w (ReachPost o l w) := by
  have C1 := rof2_walk v l w hr (by omega)
  have HO := Lib.hid ho
  have HS0 := Lib.hid (RInv.start o l)
  have HCNT := Lib.hid hcnt
  have HRAW := Lib.hid hraw
  obtain ⟨i0, hi, hz0, hz1, hz2⟩ := info_parts infoStr
  clear hraw hcnt hr
  go_enter Tryz.func15, Tryz.ntmps15
  go_wp2_with fail
  refine C1.mono ?_
  rintro e w1 ⟨v1, rfl, hown1, hb1⟩
  have HOWN1 := Lib.hid hown1
  clear C1 hown1
  go_wp2
  go_loopw [6, 7, 8] (fun qv ok i wr => ∃ (Q : List (List UInt8)) (j : Nat), j ≤ Q.length ∧ Q.length ≤ 1000000 ∧ i = .int .i64 j ∧ ok = .bool ((Q.take j).all (okO o)) ∧ RInv o (seedP l) Q j ∧ wr.ownsRow w.heap.size 9 1 qv Q.length (Q.map S) ∧ Below w.heap.size w wr) (fun _ _ i _ => 1000000 - (intOf i).toNat)
  case atStart =>
    have hl := GInv.nodup_few (o := o) (P := seedP l) (q := setOf l) (l := l) (fun x hx => hx.1) HS0.out.nd HS0.out.snd
    exact ⟨setOf l, 0, Nat.zero_le _, by have := HCNT.out; omega, rfl, by simp, HS0.out, HOWN1.out, hb1⟩
  case round =>
    obtain ⟨Q, j, hj, hQ, rfl, rfl, hinv, hown, hB⟩ := hrel
    have HINV := Lib.hid hinv
    have HOWN := Lib.hid hown
    have HB := Lib.hid hB
    clear hinv
    by_cases h1 : j < Q.length
    · have h1' : (j : Int) < (Q.length : Int) := by omega
      obtain ⟨a, c, rfl, hc, hm, hx⟩ := StrRow.of_owns hown
      rcases hx with hx | ⟨b, o', rfl, hx⟩
      · exfalso; rw [hx] at h1; simp at h1
      have hc1 := str_cell hx h1
      have HALL := Lib.hid (all_step (f := okO o) h1)
      have HSK := Lib.hid (fun h => HINV.out.skip h1 h)
      have HPU := Lib.hid (HINV.out.push h1)
      clear hx hown
      generalize Q[j] = k at *
      generalize (Q.take j).all (okO o) = okb at *
      have CG := rget_walk ov o k wr (HO.out.below hB) hol
      have HRL := Lib.hid (show (rootOf (findR o k)).length ≤ 1000000 by
        cases hf : findR o k with
        | none => simp [rootOf]
        | some r =>
          unfold findR at hf
          rw [Option.map_eq_some_iff] at hf
          obtain ⟨x, hx, rfl⟩ := hf
          exact HRAW.out x (List.mem_of_find?_eq_some hx))
      have HTOT := Lib.hid (fun h => read_tot (s := rootOf (findR o k)) h)
      have HKB := Lib.hid (fun h => kids_bound (s := rootOf (findR o k)) h)
      obtain ⟨kb, hkb⟩ : ∃ kb, okO o k = kb := ⟨_, rfl⟩
      cases kb with
      | false =>
        have HN := Lib.hid (okO_no hkb)
        have HIS := Lib.hid (show ¬ ((findR o k).isSome = true ∧ (readN (rootOf (findR o k))).2 = 0) from fun h => by unfold okO at hkb; rw [h.1, h.2] at hkb; simp at hkb)
        rw [hkb, Bool.and_false] at HALL
        generalize rootOf (findR o k) = raw at *
        generalize (findR o k).isSome = is at *
        clear hB hkb HTOT HKB
        go_wp2_with fail
        refine CG.mono ?_
        rintro e w2 ⟨rfl, hb2⟩
        have HB2W := Lib.hid hb2
        have CR := rread11_walk raw w2 HRL.out
        clear CG hb2 hc1
        go_wp2_with fail
        refine CR.mono ?_
        rintro e w3 ⟨vp, ve, rfl, hnr, hb3⟩
        obtain ⟨va, vc, rfl⟩ := row_slice hnr.parts
        obtain ⟨ua, uc, rfl⟩ := row_slice hnr.ents
        have HOW := Lib.hid (fun (w' : World) (h : Below wr.heap.size wr w') => show w'.ownsRow w.heap.size 9 1 (.slice (some ⟨b, o', none⟩) Q.length c) Q.length (Q.map S) from own_keep HOWN.out (fun g _ h2 => h.block g h2))
        obtain ⟨w4, hw4, hB4⟩ : ∃ w4, w4 = w3.alloc (.cells #[.int .i64 (readN raw).1.kind, S (readN raw).1.data, .slice va (readN raw).1.parts.length vc, .slice ua (readN raw).1.ents.length uc] 54) ∧ Below wr.heap.size wr w4 :=
          ⟨_, rfl, ((HB2W.out.trans (hb3.mono HB2W.out.size)).alloc (by have := hb3.size; have := HB2W.out.size; omega) _)⟩
        have HROW4 := Lib.hid (HOW.out w4 hB4)
        have HBW4 := Lib.hid (HB.out.trans (hB4.mono HB.out.size))
        obtain ⟨er, her⟩ : ∃ er, (readN raw).2 = er := ⟨_, rfl⟩
        rw [her] at HIS ⊢
        clear CR hb3 hnr hB4 her
        cases is with
        | false =>
          go_upto_region 8 with fail
          rw [← hw4]
          clear hw4
          go_wp2
          go_roundw
          case rel => exact ⟨Q, j + 1, by omega, hQ, by go_num, by rw [HALL.out], HSK.out HN.out, HROW4.out, HBW4.out⟩
          case measure => simp [intOf]; omega
        | true =>
          have hne : (er != 0) = true := by rw [bne_iff_ne]; exact fun h => HIS.out ⟨rfl, h⟩
          go_upto_region 8 with fail
          rw [← hw4]
          clear hw4
          go_wp2
          go_roundw
          case rel => exact ⟨Q, j + 1, by omega, hQ, by go_num, by rw [HALL.out], HSK.out HN.out, HROW4.out, HBW4.out⟩
          case measure => simp [intOf]; omega
      | true =>
        obtain ⟨hy1, hy2, hy3⟩ := okO_yes hkb
        rw [hkb, Bool.and_true] at HALL
        rw [hy1] at CG
        rw [hy3] at HPU
        have HTOT2 := Lib.hid (HTOT.out hy2)
        have HKB2 := Lib.hid (HKB.out hy2)
        have HE := Lib.hid hy2
        generalize rootOf (findR o k) = raw at *
        clear hB hkb HTOT HKB hy1 hy2 hy3 HSK
        go_wp2_with fail
        refine CG.mono ?_
        rintro e w2 ⟨rfl, hb2⟩
        have HB2W := Lib.hid hb2
        have CR := rread11_walk raw w2 HRL.out
        clear CG hb2 hc1
        go_wp2_with fail
        refine CR.mono ?_
        rintro e w3 ⟨vp, ve, rfl, hnr, hb3⟩
        obtain ⟨va, vc, rfl⟩ := row_slice hnr.parts
        obtain ⟨ua, uc, rfl⟩ := row_slice hnr.ents
        have HOW := Lib.hid (fun (w' : World) (h : Below wr.heap.size wr w') => show w'.ownsRow w.heap.size 9 1 (.slice (some ⟨b, o', none⟩) Q.length c) Q.length (Q.map S) from own_keep HOWN.out (fun g _ h2 => h.block g h2))
        obtain ⟨w4, hw4, hB4, hz4⟩ : ∃ w4, w4 = w3.alloc (.cells #[.int .i64 (readN raw).1.kind, S (readN raw).1.data, .slice va (readN raw).1.parts.length vc, .slice ua (readN raw).1.ents.length uc] 54) ∧ Below wr.heap.size wr w4 ∧ w4.heap[w3.heap.size]? = some (.cells #[.int .i64 (readN raw).1.kind, S (readN raw).1.data, .slice va (readN raw).1.parts.length vc, .slice ua (readN raw).1.ents.length uc] 54 (0, 0)) :=
          ⟨_, rfl, ((HB2W.out.trans (hb3.mono HB2W.out.size)).alloc (by have := hb3.size; have := HB2W.out.size; omega) _), heap_alloc_new _ _⟩
        have HN4 := Lib.hid (hnr.below (show Below w3.heap.size w3 w4 by rw [hw4]; exact (Below.refl _ _).alloc (Nat.le_refl _) _))
        obtain ⟨⟨z0, z1, z2, z3⟩, -, -⟩ := box4 hz4
        obtain ⟨n, hn⟩ : ∃ n, (readN raw).1 = n := ⟨_, rfl⟩
        have htot := HTOT2.out
        have hkb := HKB2.out
        rw [hn] at z0 z1 z2 z3 HN4 hw4 htot hkb HPU
        rw [hn, HE.out]
        have CK := rkids2_walk (.slice va n.parts.length vc) (.slice ua n.ents.length uc) n w4 HN4.out (by omega)
        have HB4 := Lib.hid hB4
        clear CR hn hnr hb3 hB4 hz4 HTOT2 HKB2 HE HB2W
        go_upto_region 8 with fail
        rw [← hw4]
        clear hw4
        go_wp2_with fail
        refine CK.mono ?_
        rintro e w5 ⟨v5, rfl, hr5, hb5⟩
        have HB5 := Lib.hid (HB4.out.trans (hb5.mono HB4.out.size))
        have HBW5 := Lib.hid (HB.out.trans (HB5.out.mono HB.out.size))
        have HOWN5 := Lib.hid (HOW.out w5 HB5.out)
        have HK5 := Lib.hid hr5
        obtain ⟨ka, kn, kc, rfl⟩ := own_slice hr5
        obtain ⟨kids, hkids⟩ : ∃ kids, kidsN n = kids := ⟨_, rfl⟩
        rw [hkids] at HK5 HPU hkb
        have hkn : kn = kids.length := by
          obtain ⟨a7, c7, h7, -⟩ := StrRow.of_owns HK5.out
          cases h7; rfl
        subst hkn
        have HSEP := Lib.hid (show (Value.slice ka kids.length kc).ownBlock = none ∨ (Value.slice ka kids.length kc).ownBlock ≠ (Value.slice (some ⟨b, o', none⟩) Q.length c).ownBlock from by
          cases hvb : (Value.slice ka kids.length kc).ownBlock with
          | none => exact .inl rfl
          | some g =>
            have h7 := (HK5.out.lt g hvb).1
            refine .inr fun h8 => ?_
            have h9 := (HOWN.out.lt g h8.symm).2
            have := HB4.out.size
            omega)
        clear CK hr5 hb5 z0 z1 z2 z3 hkids HN4
        go_wp2
        go_loopw [6, 14] (fun qv i wr2 => ∃ t : Nat, t ≤ kids.length ∧ i = .int .i64 t ∧ wr2.ownsRow w.heap.size 9 1 qv (pushQ Q (kids.take t)).length ((pushQ Q (kids.take t)).map S) ∧ wr2.ownsRow w4.heap.size 9 1 (.slice ka kids.length kc) kids.length (kids.map S) ∧ ((Value.slice ka kids.length kc).ownBlock = none ∨ (Value.slice ka kids.length kc).ownBlock ≠ qv.ownBlock) ∧ Below w.heap.size w wr2) (fun _ i _ => kids.length - (intOf i).toNat)
        case atStart => exact ⟨0, Nat.zero_le _, rfl, HOWN5.out, HK5.out, HSEP.out, HBW5.out⟩
        case round =>
          obtain ⟨t, ht, rfl, hown, hkow, hsep, hBw6⟩ := hrel
          have HOWN6 := Lib.hid hown
          have HK6 := Lib.hid hkow
          have HSP6 := Lib.hid hsep
          clear hsep
          have HBW6 := Lib.hid hBw6
          have hpl := pushQ_len (kids.take t) Q
          rw [List.length_take, Nat.min_eq_left ht] at hpl
          by_cases h2 : t < kids.length
          · have h2' : (t : Int) < (kids.length : Int) := by omega
            obtain ⟨a7, c7, hv7, -, -, hkx⟩ := StrRow.of_owns hkow
            obtain ⟨e1, e2⟩ : ka = a7 ∧ kc = c7 := by cases hv7; exact ⟨rfl, rfl⟩
            subst e1 e2
            clear hv7
            rcases hkx with hkx | ⟨kb, ko, rfl, hkx⟩
            · exfalso; rw [hkx] at h2; simp at h2
            have hc2 := str_cell hkx h2
            have HST := Lib.hid (pushQ_step (q := Q) h2)
            clear hkx hkow
            generalize kids[t] = y at *
            generalize pushQ Q (kids.take t) = Q2 at *
            have CH := rhas_walk u6 Q2 y wr (StrRow.of_owns HOWN6.out) (by omega)
            by_cases hin : y ∈ Q2
            · have HS := Lib.hid (show pushQ Q (kids.take (t + 1)) = Q2 by rw [HST.out, if_pos hin])
              rw [decide_eq_true hin] at CH
              clear hin HST hown
              go_wp2_with fail
              refine CH.mono ?_
              rintro e w7 ⟨rfl, hb7⟩
              have HB7 := Lib.hid hb7
              clear hb7 CH hc2 hBw6
              go_wp2
              go_roundw
              case rel => exact ⟨t + 1, by omega, by go_num, by rw [HS.out]; exact own_keep HOWN6.out (fun g _ h2 => HB7.out.block g h2), own_keep HK6.out (fun g _ h2 => HB7.out.block g h2), HSP6.out, HBW6.out.trans (HB7.out.mono HBW6.out.size)⟩
              case measure => simp [intOf]; omega
            · have HS := Lib.hid (show pushQ Q (kids.take (t + 1)) = Q2 ++ [y] by rw [HST.out, if_neg hin])
              rw [decide_eq_false hin] at CH
              clear hin HST hown
              go_wp2_with fail
              refine CH.mono ?_
              rintro e w7 ⟨rfl, hb7⟩
              have hown7 := own_keep HOWN6.out (fun g _ h2 => hb7.block g h2)
              have hc7 := cell_below hb7 hc2
              have hkow7 := own_keep HK6.out (fun g _ h2 => hb7.block g h2)
              have hbw7 := HBW6.out.trans (hb7.mono HBW6.out.size)
              have hsz7 := hbw7.size
              clear hb7 CH hc2 hBw6
              go_wp2_with (at_builtin; refine wpList_append_sep rfl _ _ 22 rfl w.heap.size 9 i0 (.string ⟨#[]⟩) 1 16 Tryz.underlying22 hi hz0 hz1 hz2 rfl (by decide) _ _ _ rfl (hown7.alloc _) ⟨w7.heap.size, 0, none⟩ 1 1 [S y] rfl rfl (new_cell_at rfl _ _) (s_one _) (by unfold maxLen; omega) (by omega) (by rw [World.size_alloc]; omega) (by decide) ?_)
              intro v8 w8 hown8 hgrow8 hblk8
              have HBW8 := Lib.hid ((hbw7.alloc hsz7 _).grown hgrow8 (by rw [World.size_alloc]; omega) (fun j hj => (hown7.lt j hj).1))
              have HK8 := Lib.hid ((hkow7.alloc (.cells #[S y] 9)).kept hgrow8 HSP6.out)
              have HSP8 := Lib.hid (show (Value.slice (some ⟨kb, ko, none⟩) kids.length kc).ownBlock = none ∨ (Value.slice (some ⟨kb, ko, none⟩) kids.length kc).ownBlock ≠ v8.ownBlock from by
                rcases hblk8 with h8 | h8
                · rw [h8]; exact HSP6.out
                · rw [h8]
                  refine .inr fun h9 => ?_
                  have := (hkow7.lt _ h9).2
                  omega)
              have HOWN8 := Lib.hid hown8
              clear hgrow8 hown7 hown8 hc7 hkow7 hbw7 hblk8
              go_wp2
              go_roundw
              case rel => exact ⟨t + 1, by omega, by go_num, by rw [HS.out]; simpa using HOWN8.out, HK8.out, HSP8.out, HBW8.out⟩
              case measure => simp [intOf]; omega
          · have h2' : ¬ (t : Int) < (kids.length : Int) := by omega
            obtain rfl : t = kids.length := by omega
            rw [List.take_of_length_le (Nat.le_refl _)] at HOWN6
            obtain ⟨hinv2, hgrow2⟩ := HPU.out
            have hl := GInv.nodup_few (o := o) (P := seedP l) (q := pushQ Q kids) (l := l) (fun x hx => hx.1) hinv2.nd hinv2.snd
            have HINV2 := Lib.hid hinv2
            have HALLP := Lib.hid (show ((pushQ Q kids).take (j + 1)).all (okO o) = okb by rw [pushQ_take (by omega), HALL.out])
            have HL2 := Lib.hid (show (pushQ Q kids).length ≤ 1000000 by have := HCNT.out; omega)
            clear hown hkow hBw6 hinv2 hl hpl
            go_wp2
            go_roundw
            case rel => exact ⟨pushQ Q kids, j + 1, by omega, HL2.out, by go_num, by rw [HALLP.out], HINV2.out, HOWN6.out, HBW6.out⟩
            case measure => simp [intOf]; omega
    · have h1' : ¬ (j : Int) < (Q.length : Int) := by omega
      obtain rfl : j = Q.length := by omega
      have hrow := StrRow.of_owns hown
      have HROW := Lib.hid hrow
      obtain ⟨a, c, rfl, -⟩ := hrow
      have CO := rof_walk (.slice a Q.length c) Q wr HROW.out (by omega)
      have HFIN := Lib.hid (show upS (setOf Q) ∧ (∀ x, x ∈ setOf Q ↔ Reached o (seedP l) x) ∧ (setOf Q).all (okO o) = (Q.take Q.length).all (okO o) from by
        have h32 : ∀ x ∈ Q, x.length = 32 := fun x hx => (HINV.out.snd x hx).len (fun k hk => hk.2)
        refine ⟨setOf_up _, fun x => ?_, by rw [all_setOf h32, List.take_of_length_le (Nat.le_refl _)]⟩
        rw [setOf_mem]
        exact ⟨fun h => (HINV.out.done (Nat.le_refl _) x).1 h.1, fun h => ⟨(HINV.out.done (Nat.le_refl _) x).2 h, h32 x ((HINV.out.done (Nat.le_refl _) x).2 h)⟩⟩)
      generalize (Q.take Q.length).all (okO o) = okb at *
      generalize setOf Q = R at *
      clear hown
      go_wp2_with fail
      refine CO.mono ?_
      rintro e w2 ⟨v2, rfl, hr2, hb2⟩
      have HR2 := Lib.hid hr2
      have HB2 := Lib.hid (below_chain HB.out hb2 HB.out.size)
      clear hr2 hb2 CO hB
      go_wp2
      go_ret2
      exact ⟨v2, R, by rw [HFIN.out.2.2]; rfl, HR2.out, HFIN.out.1, HFIN.out.2.1, HB2.out⟩
end Go.Proofs.YtengciicdnkgaaaGreatDoor
