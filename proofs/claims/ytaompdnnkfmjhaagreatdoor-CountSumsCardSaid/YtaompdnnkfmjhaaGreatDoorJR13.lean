/- What is reached, the reference's. A statement's arguments, opened: slices of elements of some cells. A statement's arguments, opened: objects; how long they can be. A statement's arguments, opened: texts, numbers. The library's variable errors.errorType, out of the row's condition. -/
import Derived.Test.YtaompdnnkfmjhaaGreatDoorJKSet
import Derived.Test.YtaompdnnkfmjhaaGreatDoorJReachQ
import Derived.Test.YtaompdnnkfmjhaaGreatDoorJRBuild12
import Derived.Test.YtaompdnnkfmjhaaGreatDoorJMapB
import Derived.Test.YtaompdnnkfmjhaaGreatDoorR11f
import Derived.Test.YtaompdnnkfmjhaaGreatDoorJRowG
import Derived.Test.YtaompdnnkfmjhaaGreatDoorJMapI
import Derived.SliceStrings
import Derived.OpenShut
import Derived.ProofKit
import Derived.ChangeOld
import Derived.ChangeMaps5
import Derived.Deep.Slices
import Derived.Lib.SmallJoins
import Derived.Deep.SlicePairs
import Derived.Test.YtaompdnnkfmjhaaGreatDoorJPlain
import Derived.Test.YtaompdnnkfmjhaaGreatDoorRows
import Derived.Test.YtaompdnnkfmjhaaGreatDoorJAs11
import Derived.RowKitTokens
import Derived.LaidLaws
import Derived.LaidHandle
import Derived.Stop.Joined
namespace Go.Proofs.YtaompdnnkfmjhaaGreatDoor
open Go.RowKit

set_option maxHeartbeats 8000000 in
set_option maxRecDepth 100000 in
theorem rreach_walk (ov v : Value) (o : List Snp) (l : List (List UInt8)) (w : World) (ho : SnpRow w ov o) (hr : StrRow w v l) (hol : o.length ≤ 1100000) (hraw : ∀ x ∈ o, x.2.length ≤ 1000000) (hcnt : 32 * l.length + rawsL o ≤ 32 * 1000000) :
    Calls Tryz.prog 11 #[ov, v] w (ReachPost o l w) := by
  have C1 := rof2_walk v l w hr (by omega)
  have HO := Lib.hid ho
  have HS0 := Lib.hid (RInv.start o l)
  have HCNT := Lib.hid hcnt
  have HRAW := Lib.hid hraw
  obtain ⟨i0, hi, hz0, hz1, hz2⟩ := info_parts infoStr
  clear hraw hcnt hr
  go_enter Tryz.func11, Tryz.ntmps11
  go_wp2_with fail
  refine C1.mono ?_
  rintro e w1 ⟨v1, rfl, hown1, hb1⟩
  have HOWN1 := Lib.hid hown1
  clear C1 hown1
  go_wp2
  go_loopw [6, 7, 8] (fun qv ok i wr => ∃ (Q : List (List UInt8)) (j : Nat), j ≤ Q.length ∧ Q.length ≤ 1000000 ∧ i = .int .i64 j ∧ ok = .bool ((Q.take j).all (okO o)) ∧ RInv o (seedP l) Q j ∧ wr.ownsRow w.heap.size 9 1 qv Q.length (Q.map S) ∧ Below w.heap.size w wr) (fun _ _ i _ => 1000000 - (intOf i).toNat)
  case atStart =>
    have hl := GInv.nodup_few (o := o) (P := seedP l) (q := setOf l) (l := l) (fun x hx => hx.1) HS0.out.nd HS0.out.snd
    exact ⟨setOf l, 0, Nat.zero_le _, by have := HCNT.out; omega, rfl, by simp, HS0.out, HOWN1.out, hb1⟩
  case round =>
    obtain ⟨Q, j, hj, hQ, rfl, rfl, hinv, hown, hB⟩ := hrel
    have HINV := Lib.hid hinv
    have HOWN := Lib.hid hown
    have HB := Lib.hid hB
    clear hinv
    by_cases h1 : j < Q.length
    · have h1' : (j : Int) < (Q.length : Int) := by omega
      obtain ⟨a, c, rfl, hc, hm, hx⟩ := StrRow.of_owns hown
      rcases hx with hx | ⟨b, o', rfl, hx⟩
      · exfalso; rw [hx] at h1; simp at h1
      have hc1 := str_cell hx h1
      have HALL := Lib.hid (all_step (f := okO o) h1)
      have HSK := Lib.hid (fun h => HINV.out.skip h1 h)
      have HPU := Lib.hid (HINV.out.push h1)
      clear hx hown
      generalize Q[j] = k at *
      generalize (Q.take j).all (okO o) = okb at *
      have CG := rget_walk ov o k wr (HO.out.below hB) hol
      have HRL := Lib.hid (show (rootOf (findR o k)).length ≤ 1000000 by
        cases hf : findR o k with
        | none => simp [rootOf]
        | some r =>
          unfold findR at hf
          rw [Option.map_eq_some_iff] at hf
          obtain ⟨x, hx, rfl⟩ := hf
          exact HRAW.out x (List.mem_of_find?_eq_some hx))
      have HTOT := Lib.hid (fun h => read_tot (s := rootOf (findR o k)) h)
      have HKB := Lib.hid (fun h => kids_bound (s := rootOf (findR o k)) h)
      obtain ⟨kb, hkb⟩ : ∃ kb, okO o k = kb := ⟨_, rfl⟩
      cases kb with
      | false =>
        have HN := Lib.hid (okO_no hkb)
        have HIS := Lib.hid (show ¬ ((findR o k).isSome = true ∧ (readN (rootOf (findR o k))).2 = 0) from fun h => by unfold okO at hkb; rw [h.1, h.2] at hkb; simp at hkb)
        rw [hkb, Bool.and_false] at HALL
        generalize rootOf (findR o k) = raw at *
        generalize (findR o k).isSome = is at *
        clear hB hkb HTOT HKB
        go_wp2_with fail
        refine CG.mono ?_
        rintro e w2 ⟨rfl, hb2⟩
        have HB2W := Lib.hid hb2
        have CR := rread11_walk raw w2 HRL.out
        clear CG hb2 hc1
        go_wp2_with fail
        refine CR.mono ?_
        rintro e w3 ⟨vp, ve, rfl, hnr, hb3⟩
        obtain ⟨va, vc, rfl⟩ := row_slice hnr.parts
        obtain ⟨ua, uc, rfl⟩ := row_slice hnr.ents
        have HOW := Lib.hid (fun (w' : World) (h : Below wr.heap.size wr w') => show w'.ownsRow w.heap.size 9 1 (.slice (some ⟨b, o', none⟩) Q.length c) Q.length (Q.map S) from own_keep HOWN.out (fun g _ h2 => h.block g h2))
        obtain ⟨w4, hw4, hB4⟩ : ∃ w4, w4 = w3.alloc (.cells #[.int .i64 (readN raw).1.kind, S (readN raw).1.data, .slice va (readN raw).1.parts.length vc, .slice ua (readN raw).1.ents.length uc] 36) ∧ Below wr.heap.size wr w4 :=
          ⟨_, rfl, ((HB2W.out.trans (hb3.mono HB2W.out.size)).alloc (by have := hb3.size; have := HB2W.out.size; omega) _)⟩
        have HROW4 := Lib.hid (HOW.out w4 hB4)
        have HBW4 := Lib.hid (HB.out.trans (hB4.mono HB.out.size))
        obtain ⟨er, her⟩ : ∃ er, (readN raw).2 = er := ⟨_, rfl⟩
        rw [her] at HIS ⊢
        clear CR hb3 hnr hB4 her
        cases is with
        | false =>
          go_upto_region 8 with fail
          rw [← hw4]
          clear hw4
          go_wp2
          go_roundw
          case rel => exact ⟨Q, j + 1, by omega, hQ, by go_num, by rw [HALL.out], HSK.out HN.out, HROW4.out, HBW4.out⟩
          case measure => simp [intOf]; omega
        | true =>
          have hne : (er != 0) = true := by rw [bne_iff_ne]; exact fun h => HIS.out ⟨rfl, h⟩
          go_upto_region 8 with fail
          rw [← hw4]
          clear hw4
          go_wp2
          go_roundw
          case rel => exact ⟨Q, j + 1, by omega, hQ, by go_num, by rw [HALL.out], HSK.out HN.out, HROW4.out, HBW4.out⟩
          case measure => simp [intOf]; omega
      | true =>
        obtain ⟨hy1, hy2, hy3⟩ := okO_yes hkb
        rw [hkb, Bool.and_true] at HALL
        rw [hy1] at CG
        rw [hy3] at HPU
        have HTOT2 := Lib.hid (HTOT.out hy2)
        have HKB2 := Lib.hid (HKB.out hy2)
        have HE := Lib.hid hy2
        generalize rootOf (findR o k) = raw at *
        clear hB hkb HTOT HKB hy1 hy2 hy3 HSK
        go_wp2_with fail
        refine CG.mono ?_
        rintro e w2 ⟨rfl, hb2⟩
        have HB2W := Lib.hid hb2
        have CR := rread11_walk raw w2 HRL.out
        clear CG hb2 hc1
        go_wp2_with fail
        refine CR.mono ?_
        rintro e w3 ⟨vp, ve, rfl, hnr, hb3⟩
        obtain ⟨va, vc, rfl⟩ := row_slice hnr.parts
        obtain ⟨ua, uc, rfl⟩ := row_slice hnr.ents
        have HOW := Lib.hid (fun (w' : World) (h : Below wr.heap.size wr w') => show w'.ownsRow w.heap.size 9 1 (.slice (some ⟨b, o', none⟩) Q.length c) Q.length (Q.map S) from own_keep HOWN.out (fun g _ h2 => h.block g h2))
        obtain ⟨w4, hw4, hB4, hz4⟩ : ∃ w4, w4 = w3.alloc (.cells #[.int .i64 (readN raw).1.kind, S (readN raw).1.data, .slice va (readN raw).1.parts.length vc, .slice ua (readN raw).1.ents.length uc] 36) ∧ Below wr.heap.size wr w4 ∧ w4.heap[w3.heap.size]? = some (.cells #[.int .i64 (readN raw).1.kind, S (readN raw).1.data, .slice va (readN raw).1.parts.length vc, .slice ua (readN raw).1.ents.length uc] 36 (0, 0)) :=
          ⟨_, rfl, ((HB2W.out.trans (hb3.mono HB2W.out.size)).alloc (by have := hb3.size; have := HB2W.out.size; omega) _), heap_alloc_new _ _⟩
        have HN4 := Lib.hid (hnr.below (show Below w3.heap.size w3 w4 by rw [hw4]; exact (Below.refl _ _).alloc (Nat.le_refl _) _))
        obtain ⟨⟨z0, z1, z2, z3⟩, -, -⟩ := box4 hz4
        obtain ⟨n, hn⟩ : ∃ n, (readN raw).1 = n := ⟨_, rfl⟩
        have htot := HTOT2.out
        have hkb := HKB2.out
        rw [hn] at z0 z1 z2 z3 HN4 hw4 htot hkb HPU
        rw [hn, HE.out]
        have CK := rkids2_walk (.slice va n.parts.length vc) (.slice ua n.ents.length uc) n w4 HN4.out (by omega)
        have HB4 := Lib.hid hB4
        clear CR hn hnr hb3 hB4 hz4 HTOT2 HKB2 HE HB2W
        go_upto_region 8 with fail
        rw [← hw4]
        clear hw4
        go_wp2_with fail
        refine CK.mono ?_
        rintro e w5 ⟨v5, rfl, hr5, hb5⟩
        have HB5 := Lib.hid (HB4.out.trans (hb5.mono HB4.out.size))
        have HBW5 := Lib.hid (HB.out.trans (HB5.out.mono HB.out.size))
        have HOWN5 := Lib.hid (HOW.out w5 HB5.out)
        have HK5 := Lib.hid hr5
        obtain ⟨ka, kn, kc, rfl⟩ := own_slice hr5
        obtain ⟨kids, hkids⟩ : ∃ kids, kidsN n = kids := ⟨_, rfl⟩
        rw [hkids] at HK5 HPU hkb
        have hkn : kn = kids.length := by
          obtain ⟨a7, c7, h7, -⟩ := StrRow.of_owns HK5.out
          cases h7; rfl
        subst hkn
        have HSEP := Lib.hid (show (Value.slice ka kids.length kc).ownBlock = none ∨ (Value.slice ka kids.length kc).ownBlock ≠ (Value.slice (some ⟨b, o', none⟩) Q.length c).ownBlock from by
          cases hvb : (Value.slice ka kids.length kc).ownBlock with
          | none => exact .inl rfl
          | some g =>
            have h7 := (HK5.out.lt g hvb).1
            refine .inr fun h8 => ?_
            have h9 := (HOWN.out.lt g h8.symm).2
            have := HB4.out.size
            omega)
        clear CK hr5 hb5 z0 z1 z2 z3 hkids HN4
        go_wp2
        go_loopw [6, 14] (fun qv i wr2 => ∃ t : Nat, t ≤ kids.length ∧ i = .int .i64 t ∧ wr2.ownsRow w.heap.size 9 1 qv (pushQ Q (kids.take t)).length ((pushQ Q (kids.take t)).map S) ∧ wr2.ownsRow w4.heap.size 9 1 (.slice ka kids.length kc) kids.length (kids.map S) ∧ ((Value.slice ka kids.length kc).ownBlock = none ∨ (Value.slice ka kids.length kc).ownBlock ≠ qv.ownBlock) ∧ Below w.heap.size w wr2) (fun _ i _ => kids.length - (intOf i).toNat)
        case atStart => exact ⟨0, Nat.zero_le _, rfl, HOWN5.out, HK5.out, HSEP.out, HBW5.out⟩
        case round =>
          obtain ⟨t, ht, rfl, hown, hkow, hsep, hBw6⟩ := hrel
          have HOWN6 := Lib.hid hown
          have HK6 := Lib.hid hkow
          have HSP6 := Lib.hid hsep
          clear hsep
          have HBW6 := Lib.hid hBw6
          have hpl := pushQ_len (kids.take t) Q
          rw [List.length_take, Nat.min_eq_left ht] at hpl
          by_cases h2 : t < kids.length
          · have h2' : (t : Int) < (kids.length : Int) := by omega
            obtain ⟨a7, c7, hv7, -, -, hkx⟩ := StrRow.of_owns hkow
            obtain ⟨e1, e2⟩ : ka = a7 ∧ kc = c7 := by cases hv7; exact ⟨rfl, rfl⟩
            subst e1 e2
            clear hv7
            rcases hkx with hkx | ⟨kb, ko, rfl, hkx⟩
            · exfalso; rw [hkx] at h2; simp at h2
            have hc2 := str_cell hkx h2
            have HST := Lib.hid (pushQ_step (q := Q) h2)
            clear hkx hkow
            generalize kids[t] = y at *
            generalize pushQ Q (kids.take t) = Q2 at *
            have CH := rhas_walk u6 Q2 y wr (StrRow.of_owns HOWN6.out) (by omega)
            by_cases hin : y ∈ Q2
            · have HS := Lib.hid (show pushQ Q (kids.take (t + 1)) = Q2 by rw [HST.out, if_pos hin])
              rw [decide_eq_true hin] at CH
              clear hin HST hown
              go_wp2_with fail
              refine CH.mono ?_
              rintro e w7 ⟨rfl, hb7⟩
              have HB7 := Lib.hid hb7
              clear hb7 CH hc2 hBw6
              go_wp2
              go_roundw
              case rel => exact ⟨t + 1, by omega, by go_num, by rw [HS.out]; exact own_keep HOWN6.out (fun g _ h2 => HB7.out.block g h2), own_keep HK6.out (fun g _ h2 => HB7.out.block g h2), HSP6.out, HBW6.out.trans (HB7.out.mono HBW6.out.size)⟩
              case measure => simp [intOf]; omega
            · have HS := Lib.hid (show pushQ Q (kids.take (t + 1)) = Q2 ++ [y] by rw [HST.out, if_neg hin])
              rw [decide_eq_false hin] at CH
              clear hin HST hown
              go_wp2_with fail
              refine CH.mono ?_
              rintro e w7 ⟨rfl, hb7⟩
              have hown7 := own_keep HOWN6.out (fun g _ h2 => hb7.block g h2)
              have hc7 := cell_below hb7 hc2
              have hkow7 := own_keep HK6.out (fun g _ h2 => hb7.block g h2)
              have hbw7 := HBW6.out.trans (hb7.mono HBW6.out.size)
              have hsz7 := hbw7.size
              clear hb7 CH hc2 hBw6
              go_wp2_with (at_builtin; refine wpList_append_sep rfl _ _ 23 rfl w.heap.size 9 i0 (.string ⟨#[]⟩) 1 16 Tryz.underlying23 hi hz0 hz1 hz2 rfl (by decide) _ _ _ rfl (hown7.alloc _) ⟨w7.heap.size, 0, none⟩ 1 1 [S y] rfl rfl (new_cell_at rfl _ _) (s_one _) (by unfold maxLen; omega) (by omega) (by rw [World.size_alloc]; omega) (by decide) ?_)
              intro v8 w8 hown8 hgrow8 hblk8
              have HBW8 := Lib.hid ((hbw7.alloc hsz7 _).grown hgrow8 (by rw [World.size_alloc]; omega) (fun j hj => (hown7.lt j hj).1))
              have HK8 := Lib.hid ((hkow7.alloc (.cells #[S y] 9)).kept hgrow8 HSP6.out)
              have HSP8 := Lib.hid (show (Value.slice (some ⟨kb, ko, none⟩) kids.length kc).ownBlock = none ∨ (Value.slice (some ⟨kb, ko, none⟩) kids.length kc).ownBlock ≠ v8.ownBlock from by
                rcases hblk8 with h8 | h8
                · rw [h8]; exact HSP6.out
                · rw [h8]
                  refine .inr fun h9 => ?_
                  have := (hkow7.lt _ h9).2
                  omega)
              have HOWN8 := Lib.hid hown8
              clear hgrow8 hown7 hown8 hc7 hkow7 hbw7 hblk8
              go_wp2
              go_roundw
              case rel => exact ⟨t + 1, by omega, by go_num, by rw [HS.out]; simpa using HOWN8.out, HK8.out, HSP8.out, HBW8.out⟩
              case measure => simp [intOf]; omega
          · have h2' : ¬ (t : Int) < (kids.length : Int) := by omega
            obtain rfl : t = kids.length := by omega
            rw [List.take_of_length_le (Nat.le_refl _)] at HOWN6
            obtain ⟨hinv2, hgrow2⟩ := HPU.out
            have hl := GInv.nodup_few (o := o) (P := seedP l) (q := pushQ Q kids) (l := l) (fun x hx => hx.1) hinv2.nd hinv2.snd
            have HINV2 := Lib.hid hinv2
            have HALLP := Lib.hid (show ((pushQ Q kids).take (j + 1)).all (okO o) = okb by rw [pushQ_take (by omega), HALL.out])
            have HL2 := Lib.hid (show (pushQ Q kids).length ≤ 1000000 by have := HCNT.out; omega)
            clear hown hkow hBw6 hinv2 hl hpl
            go_wp2
            go_roundw
            case rel => exact ⟨pushQ Q kids, j + 1, by omega, HL2.out, by go_num, by rw [HALLP.out], HINV2.out, HOWN6.out, HBW6.out⟩
            case measure => simp [intOf]; omega
    · have h1' : ¬ (j : Int) < (Q.length : Int) := by omega
      obtain rfl : j = Q.length := by omega
      have hrow := StrRow.of_owns hown
      have HROW := Lib.hid hrow
      obtain ⟨a, c, rfl, -⟩ := hrow
      have CO := rof_walk (.slice a Q.length c) Q wr HROW.out (by omega)
      have HFIN := Lib.hid (show upS (setOf Q) ∧ (∀ x, x ∈ setOf Q ↔ Reached o (seedP l) x) ∧ (setOf Q).all (okO o) = (Q.take Q.length).all (okO o) from by
        have h32 : ∀ x ∈ Q, x.length = 32 := fun x hx => (HINV.out.snd x hx).len (fun k hk => hk.2)
        refine ⟨setOf_up _, fun x => ?_, by rw [all_setOf h32, List.take_of_length_le (Nat.le_refl _)]⟩
        rw [setOf_mem]
        exact ⟨fun h => (HINV.out.done (Nat.le_refl _) x).1 h.1, fun h => ⟨(HINV.out.done (Nat.le_refl _) x).2 h, h32 x ((HINV.out.done (Nat.le_refl _) x).2 h)⟩⟩)
      generalize (Q.take Q.length).all (okO o) = okb at *
      generalize setOf Q = R at *
      clear hown
      go_wp2_with fail
      refine CO.mono ?_
      rintro e w2 ⟨v2, rfl, hr2, hb2⟩
      have HR2 := Lib.hid hr2
      have HB2 := Lib.hid (below_chain HB.out hb2 HB.out.size)
      clear hr2 hb2 CO hB
      go_wp2
      go_ret2
      exact ⟨v2, R, by rw [HFIN.out.2.2]; rfl, HR2.out, HFIN.out.1, HFIN.out.2.1, HB2.out⟩
end Go.Proofs.YtaompdnnkfmjhaaGreatDoor

namespace Go.Proofs.YtaompdnnkfmjhaaGreatDoor
open Go.ChangeShapes Go.WideShapes Go.ChangeAt Go.RowKit Go.Deep Go.Joins

theorem S_toList (s : ByteArray) : S s.data.toList = .string s := by cases s; simp
theorem spot_none {W : World} {a : Addr} {v : Value} (h : W.cell? a = some v) : a.spot = none := by
  simp only [World.cell?] at h
  split at h
  · split at h
    · cases h
    · cases hh : a.spot <;> simp_all
  · cases h
theorem addr_cell {b o i K j : Nat} : (((⟨b, o, none⟩ : Addr).add (i * K)).add j) = ⟨b, o + i * K + j, none⟩ := by rw [Addr.add_lit, Addr.add_lit]

section
variable {H : Type} {enc : TypeId × Value → H} {P : Program} {W : World} {base : Nat} {sp : Nat → Bool} {held : Bool}
/-- A slice of elements of K cells, each of which reads as f of something. -/
theorem rowK_of_trod {α : Type} (f : α → List Value) (Good : α → Prop) {K : Nat} (hK : 0 < K) (hf : ∀ x, (f x).length = K) {t e : TypeId} {fuel : Nat} {v : Value} {x : DataW H × List MemPlace}
    (ht : P.underlying t = some (.slice e)) (hc : P.cellsOf e = K) (he : ∀ n cs y, DataW.trod enc P W base sp held n e cs = some y → cs.length = K → ∃ z : α, cs = f z ∧ Good z)
    (h : DataW.trod enc P W base sp held fuel t [v] = some x) : ∃ xs, Row f W v xs ∧ ∀ z ∈ xs, Good z := by
  rcases open_slice ht h with ⟨h1, _⟩ | ⟨a, len, cap, m, n, D, Pl, h1, _, hl, hm, hmm, _, hi⟩
  · obtain rfl : v = .slice none 0 0 := by simpa using h1
    exact ⟨[], Row.nil _ W, by simp⟩
  · obtain rfl : v = .slice (some a) len cap := by simpa using h1
    have hle : len ≤ m := by rw [hmm]; split <;> omega
    have hs : ∀ i : Fin len, ∃ z : α, (∀ j u, (f z)[j]? = some u → W.cell? ((a.add (i.val * K)).add j) = some u) ∧ Good z := by
      intro i
      obtain ⟨cs', hcs, htr⟩ := hi i.val (by have := i.isLt; omega)
      rw [hc] at hcs
      obtain ⟨_, hcl, hat⟩ := World.cells?_some hcs
      obtain ⟨z, rfl, hg⟩ := he _ _ _ htr hcl
      refine ⟨z, fun j u hu => ?_, hg⟩
      have hj := (List.getElem?_eq_some_iff.1 hu).1
      have h2 := hat j (by rw [hf] at hj; exact hj)
      rw [h2]
      simpa using hu
    obtain ⟨g, hg⟩ := Classical.axiomOfChoice hs
    by_cases h0 : len = 0
    · subst h0
      exact ⟨[], ⟨some a, cap, rfl, hl, hm, .inl rfl⟩, by simp⟩
    · refine ⟨List.ofFn g, ⟨some a, cap, by simp, by simpa using hl, hm, .inr ?_⟩, fun z hz => ?_⟩
      · have hlen : 0 < len := by omega
        obtain ⟨u, hu⟩ : ∃ u, (f (g ⟨0, hlen⟩))[0]? = some u := ⟨(f (g ⟨0, hlen⟩))[0]'(by rw [hf]; exact hK), List.getElem?_eq_getElem _⟩
        have hz := spot_none ((hg ⟨0, by omega⟩).1 0 u hu)
        obtain ⟨b, o, s⟩ := a
        have hs0 : s = none := by simpa [Addr.add] using hz
        subst hs0
        refine ⟨b, o, rfl, fun j x hx i u hu => ?_⟩
        rw [List.getElem?_ofFn] at hx
        split at hx
        · rename_i hj
          cases hx
          have h1 := (hg ⟨j, hj⟩).1 i u hu
          rw [addr_cell] at h1
          rw [hf]; exact h1
        · cases hx
      · obtain ⟨i, hi⟩ := List.getElem?_of_mem hz
        rw [List.getElem?_ofFn] at hi
        split at hi
        · cases hi; exact (hg _).2
        · cases hi
end

theorem list2 {α : Type} {l : List α} (h : l.length = 2) : ∃ a b, l = [a, b] := by
  match l, h with
  | [a, b], _ => exact ⟨a, b, rfl⟩
theorem list3 {α : Type} {l : List α} (h : l.length = 3) : ∃ a b c, l = [a, b, c] := by
  match l, h with
  | [a, b, c], _ => exact ⟨a, b, c, rfl⟩

theorem list4 {α : Type} {l : List α} (h : l.length = 4) : ∃ a b c d, l = [a, b, c, d] := by
  match l, h with
  | [a, b, c, d], _ => exact ⟨a, b, c, d, rfl⟩
end Go.Proofs.YtaompdnnkfmjhaaGreatDoor

namespace Go.Proofs.YtaompdnnkfmjhaaGreatDoor
open Go.ChangeShapes Go.WideShapes Go.ChangeAt Go.RowKit Go.Deep Go.Joins

set_option maxRecDepth 100000 in
theorem sizesO : Tryz.prog.cellsOf 61 = 2 ∧ Tryz.prog.cellsOf 9 = 1 ∧ Tryz.prog.bytesOf 61 = 32 := by
  refine ⟨?_, ?_, ?_⟩ <;> kernel_rfl
theorem weightsAll_mem {H : Type} {P : Program} {e : TypeId} {b : Nat} : ∀ (l : List (DataW H)) (d : DataW H), d ∈ l → (DataW.weightsAll P e l).all (· ≤ b) = true → (d.weights P e).all (· ≤ b) = true
  | [], _, h, _ => by cases h
  | c :: l, d, h, hb => by
    rw [DataW.weightsAll, List.all_append, Bool.and_eq_true] at hb
    rcases List.mem_cons.1 h with rfl | h
    · exact hb.1
    · exact weightsAll_mem l d h hb.2
section
variable {H : Type} {enc : TypeId × Value → H} {W : World} {base : Nat} {sp : Nat → Bool} {held : Bool}
set_option maxRecDepth 100000 in
theorem objs_of_trod {fuel : Nat} {v : Value} {x : DataW H × List MemPlace} (h : DataW.trod enc Tryz.prog W base sp held fuel 22 [v] = some x) :
    ∃ xs : List Snp, SnpRow W v xs ∧ ∀ b, (x.1.weights Tryz.prog 22).all (· ≤ b) = true → xs.length * 32 ≤ b ∧ ∀ z ∈ xs, z.2.length ≤ b := by
  rcases open_slice_pairs Tryz.underlying22 Tryz.underlying61 sizesO.1 rfl rfl sizesO.2.1 sizesO.2.1 h with ⟨h1, _⟩ | ⟨a, len, cap, m, n, V0, V1, D0, D1, P0, P1, h1, _, hl, hm, hmm, hx, hi⟩
  · obtain rfl : v = .slice none 0 0 := by simpa using h1
    exact ⟨[], Row.nil _ W, fun b _ => by simp⟩
  · obtain rfl : v = .slice (some a) len cap := by simpa using h1
    have hle : len ≤ m := by rw [hmm]; split <;> omega
    have hs : ∀ i : Fin len, ∃ z : Snp, W.cell? (a.add (i.val * 2)) = some (S z.1) ∧ W.cell? (a.add (i.val * 2 + 1)) = some (S z.2) ∧ D1 i.val = .lit (.string z.2) := by
      intro i
      obtain ⟨q1, q2, q3, q4⟩ := hi i.val (by have := i.isLt; omega)
      obtain ⟨s1, e1, _⟩ := DataW.trod_string Tryz.underlying9 q3
      obtain ⟨s2, e2, e3⟩ := DataW.trod_string Tryz.underlying9 q4
      obtain ⟨e3, -⟩ := e3
      injection e1 with e1
      injection e2 with e2
      injection e3 with e3
      exact ⟨(s1.data.toList, s2.data.toList), by rw [q1, e1, S_toList], by rw [q2, e2, S_toList], e3⟩
    obtain ⟨g, hg⟩ := Classical.axiomOfChoice hs
    refine ⟨List.ofFn g, ?_, fun b hb => ?_⟩
    · by_cases h0 : len = 0
      · subst h0
        exact ⟨some a, cap, rfl, hl, hm, .inl rfl⟩
      · refine ⟨some a, cap, by simp, by simpa using hl, hm, .inr ?_⟩
        have hz := spot_none (hg ⟨0, by omega⟩).1
        obtain ⟨b, o, s⟩ := a
        have hs0 : s = none := by simpa [Addr.add] using hz
        subst hs0
        refine ⟨b, o, rfl, fun j x hx i u hu => ?_⟩
        rw [List.getElem?_ofFn] at hx
        split at hx
        · rename_i hj
          cases hx
          obtain ⟨h1, h2, _⟩ := hg ⟨j, hj⟩
          simp only [Addr.add_lit] at h1 h2
          match i, hu with
          | 0, hu => cases hu; exact h1
          | 1, hu => cases hu; exact h2
        · cases hx
    · rw [hx] at hb
      simp only [DataW.weights, Tryz.underlying22, List.all_cons, List.all_append, Bool.and_eq_true, decide_eq_true_eq] at hb
      obtain ⟨h1, h2, _⟩ := hb
      rw [sizesO.2.2] at h1
      refine ⟨by simp at h1 ⊢; omega, fun z hz => ?_⟩
      obtain ⟨i, hi2⟩ := List.getElem?_of_mem hz
      rw [List.getElem?_ofFn] at hi2
      split at hi2
      · rename_i hj
        cases hi2
        have h3 := weightsAll_mem (b := b) _ (DataW.agg [D0 i, D1 i]) (List.mem_map.2 ⟨i, List.mem_range.2 hj, rfl⟩) h2
        have h4 := (hg ⟨i, hj⟩).2.2
        simp only at h4
        rw [h4] at h3
        simp only [DataW.weights, Tryz.underlying61] at h3
        have h5 : ((D0 i).weights Tryz.prog 9 ++ ([(g ⟨i, hj⟩).2.length] ++ [])).all (· ≤ b) = true := h3
        simp only [List.all_append, List.all_cons, Bool.and_eq_true, decide_eq_true_eq] at h5
        exact h5.2.1.1
      · cases hi2
set_option maxRecDepth 100000 in
theorem objs_of_val {b0 : Nat} {r : Reach} {v : Value} {d : DataW H} {ps : List MemPlace} (hval : Value.okWide Tryz.prog W r b0 22 v) (h : DataW.Trod enc Tryz.prog W base sp held 22 v d ps) :
    ∃ xs : List Snp, SnpRow W v xs ∧ ∀ b, (d.weights Tryz.prog 22).all (· ≤ b) = true → xs.length * 32 ≤ b ∧ ∀ z ∈ xs, z.2.length ≤ b := by
  obtain ⟨a0, n0, c0, rfl⟩ := okWide_slice Tryz.underlying22 hval
  obtain ⟨fuel, hfu⟩ := h
  exact objs_of_trod (by simpa [Value.cells] using hfu)
end
set_option maxRecDepth 100000 in
theorem u8_of_valO {W : World} {r : Reach} {b0 : Nat} {v : Value} (h : Value.okWide Tryz.prog W r b0 5 v) : ∃ n : Nat, v = .int .u8 n ∧ n < 256 := by
  obtain ⟨n, rfl⟩ := okWide_int Tryz.underlying5 h
  have h2 := h
  simp [Value.okWide, Tryz.underlying5, Cell.okWide, Cell.ok, IntKind.has, IntKind.min, IntKind.max, IntKind.bits, IntKind.signed] at h2
  refine ⟨n.toNat, ?_, ?_⟩
  · congr 1; omega
  · omega
end Go.Proofs.YtaompdnnkfmjhaaGreatDoor

namespace Go.Proofs.YtaompdnnkfmjhaaGreatDoor
open Go.ChangeShapes Go.WideShapes Go.ChangeAt Go.RowKit

section
variable {H : Type} {enc : TypeId × Value → H} {W : World} {base : Nat} {sp : Nat → Bool} {held : Bool}
theorem sizesL : Tryz.prog.cellsOf 9 = 1 ∧ Tryz.prog.bytesOf 9 = 16 := by
  refine ⟨by kernel_rfl, by kernel_rfl⟩

set_option maxRecDepth 100000 in
theorem row_of_trodG {fuel : Nat} {c0 : Value} {y : DataW H × List MemPlace} (hf : DataW.trod enc Tryz.prog W base sp held fuel 23 [c0] = some y) :
    ∃ xs, StrRow W c0 xs ∧ ∀ b, (y.1.weights Tryz.prog 23).all (· ≤ b) = true → xs.length * 16 ≤ b := by
  rcases open_strings Tryz.underlying23 Tryz.underlying9 (by kernel_rfl) hf with ⟨hc, hy⟩ | ⟨a, len, cap, ss, hc, _, hl, hm, hlen, hy, hcell, _⟩
  · simp at hc
    subst hc
    exact ⟨[], StrRow.nil W, fun b _ => by simp⟩
  · simp at hc
    subst hc
    have hle : len ≤ ss.length := by rw [hlen]; split <;> omega
    have hxl : ((ss.take len).map (·.data.toList)).length = len := by simp; omega
    refine ⟨(ss.take len).map (·.data.toList), ⟨some a, cap, by rw [hxl], by rw [hxl]; exact hl, hm, ?_⟩, fun b hb => ?_⟩
    · by_cases h0 : len = 0
      · exact .inl (List.eq_nil_of_length_eq_zero (by rw [hxl, h0]))
      · right
        have hz := hcell 0 (by omega)
        have hsp : a.spot = none := by
          simp only [Addr.add, if_true, World.cell?] at hz
          split at hz
          · split at hz
            · cases hz
            · cases hh : a.spot <;> simp_all
          · cases hz
        obtain ⟨b, o, s⟩ := a
        simp only at hsp
        subst hsp
        refine ⟨b, o, rfl, fun j x hx => ?_⟩
        rw [List.getElem?_map, Option.map_eq_some_iff] at hx
        obtain ⟨s, hs, rfl⟩ := hx
        rw [List.getElem?_take] at hs
        split at hs
        · have hj := (List.getElem?_eq_some_iff.1 hs).1
          have h1 := hcell j hj
          rw [Addr.add_lit] at h1
          rw [h1, List.getD_eq_getElem?_getD, hs]
          simp
        · cases hs
    · rw [hy] at hb
      simp only [DataW.weights, Tryz.underlying23, List.all_cons, Bool.and_eq_true, decide_eq_true_eq] at hb
      have h1 := hb.1
      rw [sizesL.2] at h1
      have h2 : (strs (H := H) (ss.take len)).length = len := by simp [strs]; omega
      rw [h2] at h1
      rw [hxl]
      omega
set_option maxRecDepth 100000 in
theorem strs_of_val {b0 : Nat} {r : Reach} {v : Value} {d : DataW H} {ps : List MemPlace} (hval : Value.okWide Tryz.prog W r b0 23 v) (h : DataW.Trod enc Tryz.prog W base sp held 23 v d ps) :
    ∃ xs, StrRow W v xs ∧ ∀ b, (d.weights Tryz.prog 23).all (· ≤ b) = true → xs.length * 16 ≤ b := by
  obtain ⟨a0, n0, c0, rfl⟩ := okWide_slice Tryz.underlying23 hval
  obtain ⟨fuel, hfu⟩ := h
  exact row_of_trodG (by simpa [Value.cells] using hfu)
end
end Go.Proofs.YtaompdnnkfmjhaaGreatDoor

namespace Go.Proofs.YtaompdnnkfmjhaaGreatDoor
open Go.RowKit

theorem et11 : Tryz.prog.globalNamed "errors.errorType" = some 0 := by kernel_rfl
theorem rt11 : (Tryz.prog.cutTypes.find? (·.1 == "internal/reflectlite.rtype")).map (·.2) = some 189 := by kernel_rfl
theorem oneRow11 : ((List.range Tryz.prog.types.size).filter fun t => Tryz.prog.rowNamed t [101, 114, 114, 111, 114]) = [127] := by kernel_rfl
theorem errT_of_laid {W : World} (h : laidMetH Tryz.prog [("errors.errorType", Rows.laid_errors_errorType)] W) : ErrT W := by
  have h' : laidMet Tryz.prog [] W ∧ handlesMet Tryz.prog [("errors.errorType", Rows.laid_errors_errorType)] W := h
  obtain ⟨name, u, ty, e1, e2, e3, e4, e5⟩ := h'.2 _ (List.mem_singleton.2 rfl)
  have en : name = [101, 114, 114, 111, 114] := (Option.some.inj e1).symm
  subst en
  obtain rfl := Option.some.inj (rt11.symm.trans e2)
  have hm : ty ∈ (List.range Tryz.prog.types.size).filter fun t => Tryz.prog.rowNamed t [101, 114, 114, 111, 114] := List.mem_filter.2 ⟨List.mem_range.2 e3, e4⟩
  rw [oneRow11] at hm
  obtain rfl := List.mem_singleton.1 hm
  have hh : typeHandle Tryz.prog 127 = .pointer (some ⟨2, 127, none⟩) := by kernel_rfl
  rw [hh] at e5
  have h6 := World.var?_cell et11 e5 0
  unfold ErrT
  simpa using h6

/-- A world that meets the condition. -/
noncomputable def laidW11 (os : Os) : World :=
  let w0 := World.holding Tryz.prog os ⟨#[], #[], []⟩
  { w0 with heap := w0.heap.modify 0 fun
      | .cells _ t frozen => .cells #[.iface 189 (.agg #[.pointer (some ⟨2, 127, none⟩)])] t frozen
      | o => o }
end Go.Proofs.YtaompdnnkfmjhaaGreatDoor
