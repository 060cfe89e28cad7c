/- fetch.Check. Chapter 13's examples. The reference's Join of sets of keys. FetchReaches: what is reached from what is reached is that; from two lists what is reached from each. -/
import Derived.Test.YtocommjoncchpaaGreatDoorJTree13
import Derived.Test.YtocommjoncchpaaGreatDoorPSha5
import Derived.Test.YtocommjoncchpaaGreatDoorJRowG
import Derived.Test.YtocommjoncchpaaGreatDoorJBuildR0
import Derived.Test.YtocommjoncchpaaGreatDoorJKeysAdd
import Derived.Test.YtocommjoncchpaaGreatDoorFetchR
import Derived.Test.YtocommjoncchpaaGreatDoorJSmall13
import Derived.Test.YtocommjoncchpaaGreatDoorJNodeBack
namespace Go.Proofs.YtocommjoncchpaaGreatDoor
open Go.RowKit

set_option maxHeartbeats 2000000 in
set_option maxRecDepth 100000 in
theorem check1_walk (x : Snp) (w : World) (hx : x.2.length ≤ 1000000) :
    Calls Tryz.prog 26 #[SnpV x] w fun e w' => e = .returned (.bool (shaF x.2 != x.1)) ∧ Below w.heap.size w w' := by
  obtain ⟨p, q⟩ := x
  obtain ⟨w1, hw1, hb1, hz⟩ : ∃ w1, w1 = w.alloc (.cells #[S p, S q] 38) ∧ Below w.heap.size w w1 ∧ w1.heap[w.heap.size]? = some (.cells #[S p, S q] 38 (0, 0)) :=
    ⟨_, rfl, (Below.refl _ _).alloc (Nat.le_refl _) _, heap_alloc_new _ _⟩
  have l0 := LaterOf.cell (heap_cell hz (j := 0) (v := S p) rfl)
  have l1 := LaterOf.cell (heap_cell hz (j := 1) (v := S q) rfl)
  have CS := fun lw : LaterOf w1 => psha_walk q lw.world (by simp only at hx; omega)
  have HB1 := Lib.hid hb1
  simp only
  obtain ⟨sm, hsm⟩ : ∃ sm, shaF q = sm := ⟨_, rfl⟩
  rw [hsm] at CS
  rw [hsm]
  clear hz hb1 hx hsm
  cases hd : (sm == p) with
  | true =>
    have h2 : (sm != p) = false := by simp [bne, hd]
    rw [h2]
    go_enter Tryz.func26, Tryz.ntmps26
    go_upto_region 1 with fail
    rw [← hw1]
    clear hw1
    go_wp2_with fail
    (refine wp_region_later (by kernel_rfl) (by kernel_rfl) ?_; (repeat (go_big_quiet_step ((go_at_call 27; exact LaterOf.call _ (CS _))))); refine wpQuiet_nil ?_; intro _ hw1; obtain ⟨lw, hw2⟩ := hw1; subst hw2)
    go_wp2
    go_ret
    exact ⟨rfl, below_chain HB1.out lw.below HB1.out.size⟩
  | false =>
    have h2 : (sm != p) = true := by simp [bne, hd]
    rw [h2]
    go_enter Tryz.func26, Tryz.ntmps26
    go_upto_region 1 with fail
    rw [← hw1]
    clear hw1
    go_wp2_with fail
    (refine wp_region_later (by kernel_rfl) (by kernel_rfl) ?_; (repeat (go_big_quiet_step ((go_at_call 27; exact LaterOf.call _ (CS _))))); refine wpQuiet_nil ?_; intro _ hw1; obtain ⟨lw, hw2⟩ := hw1; subst hw2)
    go_wp2
    go_ret
    exact ⟨rfl, below_chain HB1.out lw.below HB1.out.size⟩

set_option maxHeartbeats 1000000 in
theorem check_walk (v : Value) (l : List Snp) (w : World) (hr : SnpRow w v l) (hcnt : l.length ≤ 1100000) (hraw : ∀ x ∈ l, x.2.length ≤ 1000000) :
    Calls Tryz.prog 15 #[v] w fun e w' => e = .returned (.bool (!(l.any fun x => shaF x.2 != x.1))) ∧ Below w.heap.size w w' := by
  have C := hasObj_walk 26 #[] (fun x => shaF x.2 != x.1) v l w hr hcnt (enters_of Tryz.func26 (by kernel_rfl) rfl) (fun x hx w' _ => check1_walk x w' (hraw x hx))
  obtain ⟨a, c, rfl, -⟩ := hr
  obtain ⟨r, hr⟩ : ∃ r, (l.any fun x => shaF x.2 != x.1) = r := ⟨_, rfl⟩
  rw [hr] at C
  rw [hr]
  clear hr hraw
  go_enter Tryz.func15, Tryz.ntmps15
  go_wp2_with fail
  refine C.mono ?_
  rintro e w1 ⟨rfl, hb⟩
  clear C
  go_wp2
  go_ret
  exact ⟨rfl, hb⟩
end Go.Proofs.YtocommjoncchpaaGreatDoor

namespace Go.Proofs.YtocommjoncchpaaGreatDoor
open Go.RowKit

theorem find0D {kk raw : List UInt8} : findR [(kk, raw)] kk = some raw := by simp [findR]
theorem find1D {kk raw k : List UInt8} (h : kk ≠ k) : findR [(kk, raw)] k = none := by simp [findR, h]

set_option maxHeartbeats 4000000 in
set_option maxRecDepth 100000 in
theorem awake13_walk (w : World) (hT : ErrT w) : Calls Tryz.prog 7 #[] w fun e w' => e = .returned (.bool true) ∧ Below w.heap.size w w' := by
  have C := rbuild0_walk 2 4 8 w
  obtain ⟨kk, hkk⟩ : ∃ kk, shaF rawD = kk := ⟨_, rfl⟩
  have hlen : kk.length = 32 := by rw [← hkk]; exact shaF_len _
  have hne : kk ≠ [111, 116, 104, 101, 114] := by intro h; rw [h] at hlen; cases hlen
  have HL0 : loadC [(kk, rawD)] kk 3 = 0 := by
    unfold loadC
    rw [find0D]
    simp only [rootOf, Option.isSome_some, Bool.true_eq_false, if_false, read0D, hkk]
    simp
  have HL5 : loadC [(kk, rawD)] [111, 116, 104, 101, 114] 3 = 5 := by
    unfold loadC
    rw [find1D hne]
    rfl
  have hup : upS (namesR [(kk, rawD)]) := by simp [upS, namesR]
  have hraw : ∀ x ∈ [(kk, rawD)], x.2.length ≤ 1000000 := by simp
  have CT := fun v W (h : SnpRow W v [(kk, rawD)]) (hT : ErrT W) => tree0_walk v [(kk, rawD)] kk W h hT hup (by simp) hraw (.inr (by rw [find0D]; simp only [rootOf, read0D]))
  have CF := fun v W (h : SnpRow W v [(kk, rawD)]) (hT : ErrT W) => tree0_walk v [(kk, rawD)] [111, 116, 104, 101, 114] W h hT hup (by simp) hraw (.inl (by rw [HL5]; decide))
  have CH := fun v W (h : SnpRow W v [(kk, rawD)]) => check_walk v [(kk, rawD)] W h (by simp) hraw
  have hany : (!([(kk, rawD)].any fun x => shaF x.2 != x.1)) = true := by simp [hkk]
  rw [HL0] at CT
  rw [HL5] at CF
  rw [hany] at CH
  rw [hkk] at C
  have HT := Lib.hid hT
  generalize [(kk, rawD)] = l at *
  clear hkk hlen hne HL0 HL5 hup hraw hany hT
  go_enter Tryz.func7, Tryz.ntmps7
  go_wp2_with fail
  refine C.mono ?_
  rintro e w1 ⟨v1, rfl, hr1, hb1⟩
  have HR1 := Lib.hid hr1
  have HT1 := Lib.hid (HT.out.below hb1)
  have HB1 := Lib.hid hb1
  have CT1 := CT v1 w1 hr1 HT1.out
  obtain ⟨ra, rc, rfl, -⟩ := hr1
  clear C CT hb1
  go_wp2_with fail
  refine CT1.mono ?_
  rintro e w2 ⟨rfl, hb2⟩
  have HR2 := Lib.hid (HR1.out.below hb2)
  have HT2 := Lib.hid (HT1.out.below hb2)
  have HB2 := Lib.hid (below_chain HB1.out hb2 HB1.out.size)
  have CF2 := CF _ w2 HR2.out HT2.out
  clear CT1 CF hb2
  go_wp2_with fail
  refine CF2.mono ?_
  rintro e w3 ⟨rfl, hb3⟩
  have CH3 := CH _ w3 (HR2.out.below hb3)
  have HB3 := Lib.hid (below_chain HB2.out hb3 HB2.out.size)
  clear CF2 CH hb3
  go_wp2_with fail
  refine CH3.mono ?_
  rintro e w4 ⟨rfl, hb4⟩
  have HB4 := Lib.hid (below_chain HB3.out hb4 HB3.out.size)
  clear CH3 hb4
  go_wp2
  go_ret
  exact ⟨rfl, HB4.out⟩
end Go.Proofs.YtocommjoncchpaaGreatDoor

namespace Go.Proofs.YtocommjoncchpaaGreatDoor
open Go.RowKit

def joinK (a b : List (List UInt8)) : List (List UInt8) := b.foldl addL a
theorem joinK_up {a b : List (List UInt8)} (h : upS a) : upS (joinK a b) := foldl_add_up _ _ h
theorem joinK_mem {a b : List (List UInt8)} {x : List UInt8} : x ∈ joinK a b ↔ x ∈ a ∨ x ∈ b := by
  unfold joinK; rw [foldl_add_mem]; exact Or.comm

set_option maxHeartbeats 2000000 in
set_option maxRecDepth 100000 in
theorem rjoin5_walk (va vb : Value) (a b : List (List UInt8)) (w : World) (ha : StrRow w va a) (hb : StrRow w vb b) (hup : upS a) (hcnt : a.length + b.length ≤ 1100000) :
    Calls Tryz.prog 12 #[va, vb] w fun e w' => ∃ v', e = .returned v' ∧ StrRow w' v' (joinK a b) ∧ Below w.heap.size w w' := by
  obtain ⟨i0, hi, hz0, hz1, hz2⟩ := info_parts infoStr
  have HUP := Lib.hid hup
  have HA := Lib.hid ha
  obtain ⟨aa, ac, rfl, -⟩ := ha
  obtain ⟨ba, bc, rfl, hc, hm, hx⟩ := hb
  have HX := Lib.hid hx
  clear hx hup
  go_enter Tryz.func12, Tryz.ntmps12
  go_wp2_with (at_builtin; refine wpList_append_row rfl _ _ 31 rfl w.heap.size 9 i0 (.string ⟨#[]⟩) Tryz.underlying31 hi hz0 hz1 hz2 rfl (.slice none 0 0) 0 [] rfl (World.ownsRow_nil _ _ _ _) (.slice aa a.length ac) a rfl HA.out (by omega) (Nat.le_refl _) ?_; intro v1 w1 hown1 hb1)
  have HR1 := Lib.hid (show StrRow w1 v1 a from StrRow.of_owns (base := w.heap.size) (e := 9) (by simpa using hown1))
  have HB1 := Lib.hid hb1
  clear hown1 hb1
  go_loopw [5, 6] (fun v i wr => ∃ k : Nat, k ≤ b.length ∧ i = .int .i64 k ∧ StrRow wr v (joinK a (b.take k)) ∧ Below w.heap.size w wr) (fun _ i _ => b.length - (intOf i).toNat)
  case atStart => exact ⟨0, Nat.zero_le _, rfl, HR1.out, HB1.out⟩
  case round =>
    obtain ⟨k, hk, rfl, hrow, hB⟩ := hrel
    have HROW := Lib.hid hrow
    have HB := Lib.hid hB
    clear hrow
    by_cases h1 : k < b.length
    · have h1' : (k : Int) < (b.length : Int) := by omega
      have hx := HX.out
      rcases hx with hx | ⟨g, o, rfl, hx⟩
      · exfalso; rw [hx] at h1; simp at h1
      have hc1 := cell_below hB (str_cell hx h1)
      have HS := Lib.hid (show joinK a (b.take (k + 1)) = addL (joinK a (b.take k)) b[k] by unfold joinK; rw [List.take_succ_eq_append_getElem h1, List.foldl_append]; rfl)
      have hlen : (joinK a (b.take k)).length ≤ 1100000 := by
        have := foldl_add_len (b.take k) a; rw [List.length_take] at this; unfold joinK; omega
      have C := radd_walk u5 (joinK a (b.take k)) b[k] wr HROW.out hlen (joinK_up HUP.out)
      clear hx hlen hB
      generalize b[k] = y at *
      go_wp2_with fail
      refine C.mono ?_
      rintro e w2 ⟨v2, rfl, hr2, hb2⟩
      have HR2 := Lib.hid hr2
      clear hr2 C hc1
      go_wp2
      go_roundw
      case rel => exact ⟨k + 1, by omega, by go_num, by rw [HS.out]; exact HR2.out, below_chain HB.out hb2 HB.out.size⟩
      case measure => simp [intOf]; omega
    · have h1' : ¬ (k : Int) < (b.length : Int) := by omega
      rw [List.take_of_length_le (by omega)] at HROW
      go_wp2
      go_ret
      exact ⟨_, rfl, HROW.out, HB.out⟩
end Go.Proofs.YtocommjoncchpaaGreatDoor

namespace Go.Proofs.YtocommjoncchpaaGreatDoor
open Go.RowKit

theorem reach_again {o : List Snp} {a Q R : List (List UInt8)} (hu : upS Q) (hm : ∀ x, x ∈ Q ↔ Reached o (seedP a) x) (hu2 : upS R) (hm2 : ∀ x, x ∈ R ↔ Reached o (seedP Q) x) : R = Q :=
  up_ext hu2 hu fun x => (hm2 x).trans (Reached.again hm (fun y hy => ((hm y).1 hy).len fun _ hk => hk.2) x)
theorem reach_either {o : List Snp} {a b X Y Z : List (List UInt8)} (hX : upS X) (hx : ∀ x, x ∈ X ↔ Reached o (seedP a) x) (hy : ∀ x, x ∈ Y ↔ Reached o (seedP b) x) (hZ : upS Z) (hz : ∀ x, x ∈ Z ↔ Reached o (seedP (a ++ b)) x) : Z = joinK X Y ∧ Z.all (okO o) = (X.all (okO o) && Y.all (okO o)) := by
  have hmem : ∀ x, x ∈ Z ↔ x ∈ X ∨ x ∈ Y := fun x => by rw [hz, hx, hy]; exact Reached.either x
  refine ⟨up_ext hZ (joinK_up hX) (fun x => by rw [joinK_mem, hmem]), ?_⟩
  rw [Bool.eq_iff_iff, Bool.and_eq_true, List.all_eq_true, List.all_eq_true, List.all_eq_true]
  exact ⟨fun h => ⟨fun x h1 => h x ((hmem x).2 (.inl h1)), fun x h1 => h x ((hmem x).2 (.inr h1))⟩, fun h x h1 => ((hmem x).1 h1).elim (h.1 x) (h.2 x)⟩
theorem reach_few {o : List Snp} {l Q : List (List UInt8)} (hu : upS Q) (hm : ∀ x, x ∈ Q ↔ Reached o (seedP l) x) : 32 * Q.length ≤ 32 * l.length + rawsL o :=
  GInv.nodup_few (o := o) (P := seedP l) (l := l) (fun _ h => h.1) (up_nodup hu) (fun x h => (hm x).1 h)

set_option maxHeartbeats 8000000 in
set_option maxRecDepth 100000 in
theorem reaches13_walk (ov av bv : Value) (o : List Snp) (a b : List (List UInt8)) (w : World) (ho : SnpRow w ov o) (hr : StrRow w av a) (hm : StrRow w bv b) (hT : ErrT w) (hob : o.length ≤ 140737488355328) (hor : ∀ x ∈ o, x.2.length ≤ 140737488355328) :
    Calls Tryz.prog 4 #[ov, av, bv] w fun e w' => e = .returned (.bool true) ∧ Below w.heap.size w w' := by
  have HO := Lib.hid ho
  have HR := Lib.hid hr
  have HM := Lib.hid hm
  have HT := Lib.hid hT
  have C0 := small13_walk ov o w ho hob hor
  obtain ⟨aa, ac, rfl, -, -, -⟩ := hr
  obtain ⟨ba, bc, rfl, -, -, -⟩ := hm
  obtain ⟨i0, hi, hz0, hz1, hz2⟩ := info_parts infoStr
  clear ho hT hor
  go_enter Tryz.func4, Tryz.ntmps4
  go_upto_region 1 with fail
  go_cut [27] from 15 (fun t w' => ∃ w1 q, w1 = w' ∧ t = .bool q ∧ (q = false → SmallO o ∧ a.length ≤ 30 ∧ b.length ≤ 30) ∧ Below w.heap.size w w1)
  case first =>
    go_wp2_with fail
    refine C0.mono ?_
    rintro e w2 ⟨b0, rfl, hsm, hb2⟩
    have HSM := Lib.hid hsm
    clear C0 hsm
    cases b0 with
    | false =>
      go_wp2
      go_meet
      case rel => exact ⟨_, true, rfl, rfl, (fun h => by cases h), hb2⟩
    | true =>
      by_cases g1 : 30 < a.length
      · have g1' : (30 : Int) < (a.length : Int) := by omega
        clear g1
        go_wp2
        go_meet
        case rel => exact ⟨_, true, rfl, rfl, (fun h => by cases h), hb2⟩
      · have g1' : ¬ (30 : Int) < (a.length : Int) := by omega
        by_cases g2 : 30 < b.length
        · have g2' : (30 : Int) < (b.length : Int) := by omega
          clear g1 g2
          go_wp2
          go_meet
          case rel => exact ⟨_, true, rfl, rfl, (fun h => by cases h), hb2⟩
        · have g2' : ¬ (30 : Int) < (b.length : Int) := by omega
          have HF := Lib.hid (show SmallO o ∧ a.length ≤ 30 ∧ b.length ≤ 30 from ⟨HSM.out rfl, by omega, by omega⟩)
          clear g1 g2
          go_wp2
          go_meet
          case rel => exact ⟨_, false, rfl, by rw [decide_eq_false (p := (30 : Int) < (a.length : Int)) (by omega), decide_eq_false (p := (30 : Int) < (b.length : Int)) (by omega)]; rfl, fun _ => HF.out, hb2⟩
  case rest =>
    obtain ⟨w1, b0, rfl, rfl, hsm, hB1⟩ := hcut
    cases b0 with
    | true => (have CA := awake13_walk w1 (HT.out.below hB1); go_wp2_with fail; refine CA.mono ?_; rintro e wy ⟨rfl, hby⟩; have hBy := below_chain hB1 hby (Below.size hB1); go_wp2; go_ret; exact ⟨rfl, hBy⟩)
    | false =>
    have HSM := Lib.hid (hsm rfl)
    clear hsm
    obtain ⟨_, hal, hbl⟩ := HSM.out
    have HOL := Lib.hid (show o.length ≤ 1100000 by have := HSM.out.1.len; omega)
    have HOU := Lib.hid (fit5_up12 HSM.out.1.fit)
    have HRAW := Lib.hid (show ∀ x ∈ o, x.2.length ≤ 1000000 from fun x hx => by have := HSM.out.1.raw x hx; omega)
    have CR := fun W v l (h : Below w.heap.size w W) (hr : StrRow W v l) (hl : l.length ≤ 900) => preach_walk ov v o l W (HO.out.below h) hr (HT.out.below h) HOU.out HOL.out HRAW.out (by have := HSM.out.1.tot; omega)
    have CRH := Lib.hid CR
    have C1 := CR w1 _ a hB1 (HR.out.below hB1) (by omega)
    have HB1 := Lib.hid hB1
    clear CR hB1
    go_wp2_with fail
    refine C1.mono ?_
    rintro e w2 ⟨xv, X, rfl, hrx, hux, hmx, hb2⟩
    have HX := Lib.hid hrx
    have HXS := Lib.hid (And.intro hux hmx)
    have HXL := Lib.hid (show X.length ≤ 900 by have := reach_few hux hmx; have := HSM.out.1.tot; omega)
    have HB2 := Lib.hid (below_chain HB1.out hb2 HB1.out.size)
    obtain ⟨xa, xc, rfl, -⟩ := hrx
    have C2 := CRH.out w2 _ b HB2.out (HM.out.below HB2.out) (by omega)
    clear C1 hux hmx hb2
    go_wp2_with fail
    refine C2.mono ?_
    rintro e w3 ⟨yv, Y, rfl, hry, huy, hmy, hb3⟩
    have HY := Lib.hid hry
    have HYS := Lib.hid (And.intro huy hmy)
    have HYL := Lib.hid (show Y.length ≤ 900 by have := reach_few huy hmy; have := HSM.out.1.tot; omega)
    have HX3 := Lib.hid (HX.out.below hb3)
    have HB3 := Lib.hid (below_chain HB2.out hb3 HB2.out.size)
    obtain ⟨ya, yc, rfl, -⟩ := hry
    clear C2 huy hmy hb3
    go_upto_region 5 with fail
    go_cut [11, 12] from 41 (fun v okv wc => ∃ w9 za zc Z, w9 = wc ∧ v = .slice za Z.length zc ∧ okv = .bool (Z.all (okO o)) ∧ Hid (StrRow w9 (.slice za Z.length zc) Z) ∧ Hid (upS Z ∧ ∀ x, x ∈ Z ↔ Reached o (seedP (a ++ b)) x) ∧ Below w3.heap.size w3 w9)
    case first =>
      have hemp := own_empty w3 9
      have hB4 : Below w3.heap.size w3 (w3.alloc (.cells #[] 9)) := (Below.refl _ _).alloc (Nat.le_refl _) _
      go_wp2_with (at_builtin; refine wpList_append_row rfl _ _ 31 rfl w3.heap.size 9 i0 (.string ⟨#[]⟩) Tryz.underlying31 hi hz0 hz1 hz2 rfl _ _ _ rfl hemp (.slice aa a.length ac) a rfl ((HR.out.below HB3.out).below hB4) (by omega) (by simp) ?_)
      intro v5 w5 hown5 hb5
      have hB5 := hB4.trans hb5
      go_wp2_with (at_builtin; refine wpList_append_row rfl _ _ 31 rfl w3.heap.size 9 i0 (.string ⟨#[]⟩) Tryz.underlying31 hi hz0 hz1 hz2 rfl _ _ _ rfl hown5 (.slice ba b.length bc) b rfl ((HM.out.below HB3.out).below hB5) (by omega) hB5.size ?_)
      intro v6 w6 hown6 hb6
      have hB6 := hB5.trans hb6
      have hrow6 : StrRow w6 v6 (a ++ b) := StrRow.of_owns (by simpa using hown6)
      have hBW6 := HB3.out.trans (hB6.mono HB3.out.size)
      have C3 := CRH.out w6 v6 (a ++ b) hBW6 hrow6 (by rw [List.length_append]; omega)
      clear hemp hB4 hown5 hb5 hB5 hown6 hb6 hrow6 hBW6
      go_wp2_with fail
      refine C3.mono ?_
      rintro e w7 ⟨v7, Z, rfl, hr7, hu7, hm7, hb7⟩
      have HR7 := Lib.hid hr7
      have HZS := Lib.hid (And.intro hu7 hm7)
      have HB7 := Lib.hid (hB6.trans (hb7.mono hB6.size))
      obtain ⟨za, zc, rfl, -⟩ := hr7
      clear hu7 hm7 hb7 C3 hB6
      generalize hq : Z.all (okO o) = zb at *
      go_wp2
      go_meet
      case rel => exact ⟨_, za, zc, Z, rfl, rfl, by rw [hq], HR7, HZS, HB7.out⟩
    case rest =>
      obtain ⟨w9, za, zc, Z, rfl, rfl, rfl, HZ, HZS, hb9⟩ := hcut
      have HB9 := Lib.hid (below_chain HB3.out hb9 HB3.out.size)
      have HX9 := Lib.hid (HX3.out.below hb9)
      have HY9 := Lib.hid (HY.out.below hb9)
      have C4 := CRH.out w9 _ X HB9.out HX9.out HXL.out
      have hzl : Z.length ≤ 2000 := by have := reach_few HZS.out.1 HZS.out.2; rw [List.length_append] at this; have := HSM.out.1.tot; omega
      obtain ⟨hjz, hja⟩ := reach_either HXS.out.1 HXS.out.2 HYS.out.2 HZS.out.1 HZS.out.2
      have HJZ := Lib.hid hjz
      have HJA := Lib.hid hja
      clear hjz hja hb9
      go_wp2_with fail
      refine C4.mono ?_
      rintro e wa ⟨rv, R, rfl, hrr, hur, hmr, hba⟩
      obtain rfl : R = X := reach_again HXS.out.1 HXS.out.2 hur hmr
      have HRR := Lib.hid hrr
      obtain ⟨ra, rc, rfl, -⟩ := hrr
      have HBA := Lib.hid (below_chain HB9.out hba HB9.out.size)
      have HXA := Lib.hid (HX9.out.below hba)
      have HYA := Lib.hid (HY9.out.below hba)
      have HZA := Lib.hid (HZ.out.below hba)
      have hxl := HXL.out
      have hyl := HYL.out
      have C5 := rsame5_walk _ _ R R wa HRR.out HXA.out (by omega)
      rw [show decide (R = R) = true by simp] at C5
      rw [HJA.out]
      clear hur hmr hba C4 HX9 HY9 HRR
      generalize R.all (okO o) = xb at *
      generalize Y.all (okO o) = yb at *
      go_wp2_with fail
      refine C5.mono ?_
      rintro e wb ⟨rfl, hbb⟩
      have HBB := Lib.hid (below_chain HBA.out hbb HBA.out.size)
      have C6 := rjoin5_walk _ _ R Y wb (HXA.out.below hbb) (HYA.out.below hbb) HXS.out.1 (by omega)
      have HZB := Lib.hid (HZA.out.below hbb)
      clear C5 hbb
      go_wp2_with fail
      refine C6.mono ?_
      rintro e wc ⟨jv, rfl, hjr, hbc⟩
      have C7 := rsame5_walk _ _ Z (joinK R Y) wc (HZB.out.below hbc) hjr (by omega)
      rw [decide_eq_true HJZ.out] at C7
      have HBC := Lib.hid (below_chain HBB.out hbc HBB.out.size)
      obtain ⟨ja, jc, rfl, -⟩ := hjr
      clear C6 hbc
      go_wp2_with fail
      refine C7.mono ?_
      rintro e wd ⟨rfl, hbd⟩
      have HBD := Lib.hid (below_chain HBC.out hbd HBC.out.size)
      have CA := awake13_walk wd (HT.out.below HBD.out)
      clear C7 hbd
      cases xb <;> cases yb
      all_goals
        go_wp2_with fail
        refine CA.mono ?_
        rintro e we ⟨rfl, hbe⟩
        have hBE := below_chain HBD.out hbe HBD.out.size
        go_wp2
        go_ret
        exact ⟨rfl, hBE⟩
end Go.Proofs.YtocommjoncchpaaGreatDoor
