/- CountSums: all counts together are as many as there are roots, and as keys are named by what is reached; just what is reached is counted. -/
import Derived.Test.YtaompdnnkfmjhaaGreatDoorJRBuild12
import Derived.Test.YtaompdnnkfmjhaaGreatDoorJR13
import Derived.Test.YtaompdnnkfmjhaaGreatDoorR11f
import Derived.Deep.CutRange
namespace Go.Proofs.YtaompdnnkfmjhaaGreatDoor
open Go.RowKit

theorem sum_take {α : Type} (f : α → Nat) {l : List α} {q : Nat} (h : q < l.length) : ((l.take (q + 1)).map f).sum = ((l.take q).map f).sum + f l[q] := by
  rw [List.take_succ_eq_append_getElem h, List.map_append, List.sum_append]; simp
theorem sum_takeI {α : Type} (f : α → Int) {l : List α} {q : Nat} (h : q < l.length) : ((l.take (q + 1)).map f).sum = ((l.take q).map f).sum + f l[q] := by
  rw [List.take_succ_eq_append_getElem h, List.map_append, List.sum_append]; simp
/-- What the law asks of counts. -/
structure SumsC (o : List Snp) (roots Q : List (List UInt8)) (c : List Cnt) : Prop where
  keys : c.map (·.1) = Q
  pos : ∀ x ∈ c, 1 ≤ x.2
  sum : (c.map (·.2)).sum = ((roots.filter len32).length : Int) + ((Q.map fun k => (kidsO o k).length).sum : Nat)
theorem sums_of {o : List Snp} {roots Q : List (List UInt8)} {c : List Cnt} (hu : upS Q) (hm : ∀ x, x ∈ Q ↔ Reached o (seedP roots) x) (h : Counts (kidsO o) (roots.filter len32) c) (hr : ∀ k, cntC c k ≠ 0 → Reached o (seedP roots) k) : SumsC o roots Q c := by
  obtain ⟨hcl1, hcl2⟩ := h.closed
  have hk : c.map (·.1) = Q := up_ext h.fit.up hu fun k => by
    rw [cntC_pos h.fit, hm]
    refine ⟨hr k, fun hk => ?_⟩
    refine hk (fun k => cntC c k ≠ 0) (fun k hs => hcl1 k (List.mem_filter.2 ⟨hs.1, by simp [len32, hs.2]⟩)) (fun k y hk hy => hcl2 k y hk hy)
  refine ⟨hk, h.fit.pos, ?_⟩
  rw [h.sums (kidsO_nodup o), hk]
theorem sum_few {o : List Snp} (l : List (List UInt8)) : (l.map fun k => (kidsO o k).length).sum ≤ 1084 * l.length := by
  induction l with
  | nil => simp
  | cons k l ih =>
    have h : (kidsO o k).length ≤ 1084 := kidsR_1084 _
    rw [List.map_cons, List.sum_cons, List.length_cons]
    omega
/-- So many roots, and so many keys named by the first ones. -/
noncomputable def totK (o : List Snp) (Q : List (List UInt8)) (n q : Nat) : Nat := n + ((Q.take q).map fun k => (kidsO o k).length).sum
theorem totK_step {o : List Snp} {Q : List (List UInt8)} {n q : Nat} (h : q < Q.length) : totK o Q n (q + 1) = totK o Q n q + (kidsO o Q[q]).length := by
  unfold totK
  rw [sum_take (fun k => (kidsO o k).length) h]; omega
theorem totK_few {o : List Snp} {Q : List (List UInt8)} {n q : Nat} (h : q ≤ Q.length) : totK o Q n q ≤ n + 1084 * q := by
  unfold totK
  have := sum_few (o := o) (Q.take q)
  rw [List.length_take] at this; omega
theorem totK_all (o : List Snp) (Q : List (List UInt8)) (n : Nat) : totK o Q n Q.length = n + (Q.map fun k => (kidsO o k).length).sum := by
  unfold totK
  rw [List.take_of_length_le (Nat.le_refl _)]
theorem sum_nonneg : ∀ (l : List Cnt), (∀ x ∈ l, 1 ≤ x.2) → 0 ≤ (l.map (·.2)).sum
  | [], _ => by simp
  | x :: l, h => by
    have h1 := sum_nonneg l (fun y hy => h y (List.mem_cons_of_mem _ hy))
    have h2 := h x List.mem_cons_self
    rw [List.map_cons, List.sum_cons]
    omega
theorem sum_split (l : List Cnt) (q : Nat) : ((l.take q).map (·.2)).sum + ((l.drop q).map (·.2)).sum = (l.map (·.2)).sum := by
  rw [← List.sum_append, ← List.map_append, List.take_append_drop]

/-- What is left of all behind the first counts. -/
def remC (c : List Cnt) (n : Nat) (q : Nat) : Int := (n : Int) - ((c.take q).map (·.2)).sum
theorem remC_step {c : List Cnt} {n q : Nat} (h : q < c.length) : remC c n (q + 1) = remC c n q - c[q].2 := by
  unfold remC
  rw [sum_takeI (fun x : Cnt => x.2) h]; omega
theorem remC_few {c : List Cnt} {n : Nat} (hp : ∀ x ∈ c, 1 ≤ x.2) (hs : (c.map (·.2)).sum = (n : Int)) (q : Nat) : 0 ≤ remC c n q ∧ remC c n q ≤ n := by
  unfold remC
  have h1 := sum_split c q
  have h2 := sum_nonneg (c.take q) (fun x hx => hp x (List.mem_of_mem_take hx))
  have h3 := sum_nonneg (c.drop q) (fun x hx => hp x (List.mem_of_mem_drop hx))
  omega
theorem remC_all {c : List Cnt} {n : Nat} (hs : (c.map (·.2)).sum = (n : Int)) : remC c n c.length = 0 := by
  unfold remC
  rw [List.take_of_length_le (Nat.le_refl _), hs]; omega

set_option maxHeartbeats 16000000 in
set_option maxRecDepth 100000 in
theorem sums14_walk (ov : Value) (o : List Snp) (rv : Value) (roots : List (List UInt8)) (w : World) (hT : ErrT w) (ho : SnpRow w ov o) (hob : o.length ≤ 140737488355328) (hor : ∀ x ∈ o, x.2.length ≤ 140737488355328) (hr : StrRow w rv roots) (hrb : roots.length ≤ 140737488355328) :
    Calls Tryz.prog 3 #[ov, rv] w fun e w' => e = .returned (.bool true) ∧ Below w.heap.size w w' := by
  have HO := Lib.hid ho
  have HT := Lib.hid hT
  have HR := Lib.hid hr
  have C0 := small14_walk ov o w ho hob hor
  obtain ⟨ra, rc, rfl, -, -, -⟩ := hr
  obtain ⟨la, lc, rfl, -, -, -⟩ := ho
  clear hT hor
  go_enter Tryz.func3, Tryz.ntmps3
  go_upto_region 1 with fail
  go_cut [27] from 20 (fun t w' => ∃ w1 q, w1 = w' ∧ t = .bool q ∧ (q = false → SmallO o ∧ roots.length ≤ 30) ∧ Below w.heap.size w w1)
  case first =>
    go_wp2_with fail
    refine C0.mono ?_
    rintro e w2 ⟨b0, rfl, hsm, hb2⟩
    have HSM := Lib.hid hsm
    clear C0 hsm
    cases b0 with
    | false =>
      go_wp2
      go_meet
      case rel => exact ⟨_, true, rfl, rfl, (fun h => by cases h), hb2⟩
    | true =>
      by_cases g1 : 30 < roots.length
      · have g1' : (30 : Int) < (roots.length : Int) := by omega
        clear g1
        go_wp2
        go_meet
        case rel => exact ⟨_, true, rfl, rfl, (fun h => by cases h), hb2⟩
      · have g1' : ¬ (30 : Int) < (roots.length : Int) := by omega
        have HF := Lib.hid (show SmallO o ∧ roots.length ≤ 30 from ⟨HSM.out rfl, by omega⟩)
        clear g1
        go_wp2
        go_meet
        case rel => exact ⟨_, false, rfl, by first | rfl | (rw [decide_eq_false (p := (30 : Int) < (roots.length : Int)) (by omega)]), fun _ => HF.out, hb2⟩
  case rest =>
  obtain ⟨w1, b0, rfl, rfl, hsm, hB1⟩ := hcut
  cases b0 with
  | true => (have CA := awake14_walk w1 (HT.out.below hB1); go_wp2_with fail; refine CA.mono ?_; rintro e wy ⟨rfl, hby⟩; have hBy := below_chain hB1 hby (Below.size hB1); go_wp2; go_ret; exact ⟨rfl, hBy⟩)
  | false =>
  have HSM := Lib.hid (hsm rfl)
  clear hsm
  have hrl : roots.length ≤ 30 := HSM.out.2
  have HOL := Lib.hid (show o.length ≤ 1100000 by have := HSM.out.1.len; omega)
  have HOU := Lib.hid (fit5_up12 HSM.out.1.fit)
  have HRAW := Lib.hid (show ∀ x ∈ o, x.2.length ≤ 1000000 from fun x hx => by have := HSM.out.1.raw x hx; omega)
  have C1 := countof_walk _ _ o roots 625 w1 (HO.out.below hB1) (HR.out.below hB1) (HT.out.below hB1) HOU.out HOL.out HRAW.out (by have := HSM.out.1.tot; omega) (by have := HSM.out.1.tot; omega) (by omega)
  have HB1 := Lib.hid hB1
  clear hB1
  go_wp2_with fail
  refine C1.mono ?_
  rintro e w2 ⟨cv, Q, huq, hmq, hb2, hcase⟩
  have HB2 := Lib.hid (below_chain HB1.out hb2 HB1.out.size)
  have C2 := rreach_walk _ _ o roots w2 (HO.out.below HB2.out) (HR.out.below HB2.out) HOL.out HRAW.out (by have := HSM.out.1.tot; omega)
  rcases hcase.symm with ⟨hno, rfl⟩ | ⟨hyes, c, rfl, hcr, hcc, hcs⟩
  · clear C1 hb2
    go_wp2_with fail
    refine C2.mono ?_
    rintro e w3 ⟨v3, Q3, rfl, hr3, hu3, hm3, hb3⟩
    obtain rfl : Q3 = Q := up_ext hu3 huq fun x => by rw [hm3, hmq]
    rw [hno]
    have HB3 := Lib.hid (below_chain HB2.out hb3 HB2.out.size)
    have CA := awake14_walk w3 (HT.out.below HB3.out)
    obtain ⟨a3, c3, rfl, -, -, -⟩ := hr3
    clear C2 hu3 hm3 huq hmq hb3 hno
    go_wp2_with fail
    refine CA.mono ?_
    rintro e wy ⟨rfl, hby⟩
    have hBy := below_chain HB3.out hby (Below.size HB3.out)
    go_wp2
    go_ret
    exact ⟨rfl, hBy⟩
  have HSC := Lib.hid (sums_of huq hmq hcc hcs)
  have HCR := Lib.hid hcr
  have HUQ := Lib.hid (And.intro huq hmq)
  obtain ⟨ca, cc, rfl⟩ := row_slice hcr
  clear C1 hb2 hcr hcc hcs
  go_wp2_with fail
  refine C2.mono ?_
  rintro e w3 ⟨v3, Q3, rfl, hr3, hu3, hm3, hb3⟩
  obtain rfl : Q3 = Q := up_ext hu3 huq fun x => by rw [hm3, hmq]
  rw [hyes]
  have HB3 := Lib.hid (below_chain HB2.out hb3 HB2.out.size)
  have HR3 := Lib.hid hr3
  have HCR3 := Lib.hid (HCR.out.below hb3)
  obtain ⟨a3, c3, rfl, -, -, hx3⟩ := hr3
  have HX3 := Lib.hid hx3
  clear C2 hu3 hm3 huq hmq hb3 hyes hx3
  have hql : Q3.length ≤ 1000 := by
    have h8 := GInv.nodup_few (o := o) (P := seedP roots) (l := roots) (fun _ h => h.1) (up_nodup HUQ.out.1) (fun x h => (HUQ.out.2 x).1 h)
    have := HSM.out.1.tot
    omega
  have hcl : c.length = Q3.length := by have := congrArg List.length HSC.out.keys; rwa [List.length_map] at this
  obtain ⟨_, _, hre, -, -, hrx⟩ := HR.out
  cases hre
  have HRX := Lib.hid hrx
  have HBR := Lib.hid HB3.out
  have HFL := Lib.hid (List.length_filter_le len32 roots)
  clear hrx
  go_wp2
  go_loopw [9, 60] (fun nv iv wr => ∃ q : Nat, q ≤ roots.length ∧ iv = .int .i64 q ∧ nv = .int .i64 (((roots.take q).filter len32).length : Nat) ∧ w3 = wr) (fun _ iv _ => roots.length - (intOf iv).toNat)
  case atStart => exact ⟨0, Nat.zero_le _, rfl, rfl, rfl⟩
  case round =>
    obtain ⟨q, hq, rfl, rfl, rfl⟩ := hrel
    by_cases h1 : q < roots.length
    · have h1' : (q : Int) < (roots.length : Int) := by omega
      have hx := HRX.out
      rcases hx with hx | ⟨g, go, rfl, hx⟩
      · exfalso; rw [hx] at h1; simp at h1
      have m1 := cell_below HBR.out (hx q roots[q] (by simp [h1]))
      have HTK := Lib.hid (List.take_succ_eq_append_getElem h1)
      have hfl : ((roots.take q).filter len32).length ≤ q := by have := List.length_filter_le len32 (roots.take q); rw [List.length_take] at this; omega
      clear hx
      generalize roots[q] = r at *
      by_cases h32 : r.length = 32
      · have h32' : (r.length : Int) = 32 := by omega
        have h32b : ((r.length : Int) == 32) = true := by rw [beq_iff_eq]; exact h32'
        have HL := Lib.hid (show ((roots.take (q + 1)).filter len32).length = ((roots.take q).filter len32).length + 1 by rw [HTK.out, List.filter_append, List.filter_cons_of_pos (by simp [len32, h32]), List.length_append]; rfl)
        have hw0 : IntKind.i64.wrap ((((roots.take q).filter len32).length : Int) + 1) = (((roots.take q).filter len32).length : Int) + 1 := by rw [IntKind.wrap_i64]; omega
        clear h32
        generalize ((roots.take q).filter len32).length = nn at *
        go_wp2
        go_roundw
        case rel => exact ⟨q + 1, by omega, by go_num, by rw [HL.out]; rfl, by first | rfl | trivial⟩
        case measure => simp [intOf]; omega
      · have h32' : ¬ (r.length : Int) = 32 := by omega
        have h32b : ((r.length : Int) == 32) = false := by rw [beq_eq_false_iff_ne]; exact h32'
        have HL := Lib.hid (show ((roots.take (q + 1)).filter len32).length = ((roots.take q).filter len32).length by rw [HTK.out, List.filter_append, List.filter_cons_of_neg (by simp [len32, h32])]; simp)
        go_wp2
        go_roundw
        case rel => exact ⟨q + 1, by omega, by go_num, by rw [HL.out], by first | rfl | trivial⟩
        case measure => simp [intOf]; omega
    · have h1' : ¬ (q : Int) < (roots.length : Int) := by omega
      obtain rfl : q = roots.length := by omega
      rw [List.take_of_length_le (Nat.le_refl _)]
      have hfl := HFL.out
      generalize hN1 : (roots.filter len32).length = N1 at *
      have HN1 := Lib.hid hN1
      clear hN1
      go_wp2
      go_loopw [9, 72] (fun nv iv wr => ∃ q : Nat, q ≤ Q3.length ∧ iv = .int .i64 q ∧ nv = .int .i64 (totK o Q3 N1 q : Nat) ∧ Hid (Below w3.heap.size w3 wr)) (fun _ iv _ => Q3.length - (intOf iv).toNat)
      case atStart => exact ⟨0, Nat.zero_le _, rfl, (show Value.int .i64 (N1 : Int) = .int .i64 (totK o Q3 N1 0 : Nat) by unfold totK; simp), Lib.hid (Below.refl _ _)⟩
      case round =>
        obtain ⟨q, hq, rfl, rfl, HW⟩ := hrel
        have HBW := Lib.hid (show Below w.heap.size w wr from below_chain HBR.out HW.out HBR.out.size)
        have hsf := totK_few (o := o) (n := N1) hq
        by_cases h2 : q < Q3.length
        · have h2' : (q : Int) < (Q3.length : Int) := by omega
          have hx := HX3.out
          rcases hx with hx | ⟨g, go, rfl, hx⟩
          · exfalso; rw [hx] at h2; simp at h2
          have m1 := cell_below HW.out (hx q Q3[q] (by simp [h2]))
          have HST := Lib.hid (totK_step (o := o) (n := N1) h2)
          have hk84 : (kidsO o Q3[q]).length ≤ 1084 := kidsR_1084 _
          clear hx
          generalize Q3[q] = k at *
          have CG := rget_walk (.slice la o.length lc) o k wr (HO.out.below HBW.out) HOL.out
          have hraw : (rootOf (findR o k)).length ≤ 1000000 := by
            cases hf : findR o k with
            | none => simp [rootOf]
            | some r =>
              unfold findR at hf
              rw [Option.map_eq_some_iff] at hf
              obtain ⟨x, hx, rfl⟩ := hf
              exact HRAW.out x (List.mem_of_find?_eq_some hx)
          have HKE := Lib.hid (show kidsO o k = kidsN (readN (rootOf (findR o k))).1 from (kidsR_of _).symm)
          have HTOT := Lib.hid (read_small (rootOf (findR o k)))
          have CR := fun W' => rread11_walk (rootOf (findR o k)) W' hraw
          generalize rootOf (findR o k) = raw at *
          generalize (findR o k).isSome = is at *
          clear hraw
          go_wp2_with fail
          refine CG.mono ?_
          rintro e w4 ⟨rfl, hb4⟩
          have HW4 := Lib.hid (below_chain HW.out hb4 HW.out.size)
          have CR4 := CR w4
          clear CG CR hb4
          go_wp2_with fail
          refine CR4.mono ?_
          rintro e w5 ⟨vp, ve, rfl, hnr, hb5⟩
          obtain ⟨pa, pc, rfl⟩ := row_slice hnr.parts
          obtain ⟨ua, uc, rfl⟩ := row_slice hnr.ents
          obtain ⟨w6, hw6, hb56, hn6⟩ : ∃ w6, w6 = w5.alloc (.cells #[.int .i64 (readN raw).1.kind, S (readN raw).1.data, .slice pa (readN raw).1.parts.length pc, .slice ua (readN raw).1.ents.length uc] 36) ∧ Below w5.heap.size w5 w6 ∧ w6.heap[w5.heap.size]? = some (.cells #[.int .i64 (readN raw).1.kind, S (readN raw).1.data, .slice pa (readN raw).1.parts.length pc, .slice ua (readN raw).1.ents.length uc] 36 (0, 0)) :=
            ⟨_, rfl, (Below.refl _ _).alloc (Nat.le_refl _) _, heap_alloc_new _ _⟩
          have CK := rkids_walk (.slice pa (readN raw).1.parts.length pc) (.slice ua (readN raw).1.ents.length uc) (readN raw).1 w6 (hnr.below hb56) HTOT.out
          rw [← HKE.out] at CK
          have HW6 := Lib.hid (below_chain (below_chain HW4.out hb5 HW4.out.size) hb56 (by have := HW4.out.size; have := hb5.size; omega))
          obtain ⟨⟨z0, z1, z2, z3⟩, -, -⟩ := box4 hn6
          clear CR4 hnr hb5 hb56 hn6 HKE HTOT
          go_upto_region 19 with fail
          rw [← hw6]
          clear hw6
          go_wp2_with fail
          refine CK.mono ?_
          rintro e w7 ⟨v7, rfl, hr7, hb7⟩
          have HW7 := Lib.hid (below_chain HW6.out hb7 HW6.out.size)
          obtain ⟨a7, c7, rfl, -, -, -⟩ := hr7
          have hw0 : IntKind.i64.wrap ((totK o Q3 N1 q : Int) + ((kidsO o k).length : Int)) = (totK o Q3 N1 q : Int) + ((kidsO o k).length : Int) := by rw [IntKind.wrap_i64]; omega
          have HEQ := HST
          clear CK hb7 z0 z1 z2 z3 hsf HST
          generalize totK o Q3 N1 q = nn at *
          generalize (kidsO o k).length = kl at *
          go_wp2
          go_roundw
          case rel => exact ⟨q + 1, by omega, by go_num, by rw [HEQ.out]; rfl, HW7⟩
          case measure => simp [intOf]; omega
        · have h2' : ¬ (q : Int) < (Q3.length : Int) := by omega
          obtain rfl : q = Q3.length := by omega
          have HSUM := Lib.hid (show (c.map (·.2)).sum = (totK o Q3 N1 Q3.length : Nat) by rw [HSC.out.sum, HN1.out, totK_all]; omega)
          have hTT : totK o Q3 N1 Q3.length ≤ 2000000 := by omega
          have HKEYS := Lib.hid HSC.out.keys
          have HPOS := Lib.hid HSC.out.pos
          have HQX := Lib.hid (show StrRow wr (.slice a3 Q3.length c3) Q3 from HR3.out.below HW.out)
          have HCX := Lib.hid (HCR3.out.below HW.out)
          have hcl' : ((c.length : Int) == (Q3.length : Int)) = true := by rw [beq_iff_eq]; omega
          have hcl2 : (c.length : Int) = (Q3.length : Int) := by omega
          rw [hcl] at HCX
          clear hsf
          generalize totK o Q3 N1 Q3.length = TT at *
          have HRF := Lib.hid (fun q => remC_few HPOS.out HSUM.out q)
          have HRA := Lib.hid (remC_all HSUM.out)
          obtain ⟨wB, rfl⟩ : ∃ wB, wB = wr := ⟨_, rfl⟩
          have HBB := HBW
          go_wp2
          go_loopw [9, 100] (fun nv iv wr => ∃ q : Nat, q ≤ Q3.length ∧ iv = .int .i64 q ∧ nv = .int .i64 (remC c TT q) ∧ Hid (Below wB.heap.size wB wr)) (fun _ iv _ => Q3.length - (intOf iv).toNat)
          case atStart => exact ⟨0, Nat.zero_le _, rfl, (show Value.int .i64 (TT : Int) = .int .i64 (remC c TT 0) by unfold remC; simp), Lib.hid (Below.refl _ _)⟩
          case round =>
            obtain ⟨q, hq, rfl, rfl, HW⟩ := hrel
            have HW2 := Lib.hid (show Below w.heap.size w wr from below_chain HBB.out HW.out HBB.out.size)
            by_cases h3 : q < Q3.length
            · have h3' : (q : Int) < (Q3.length : Int) := by omega
              have h3c : q < c.length := by omega
              obtain ⟨g, go, rfl, mk⟩ : ∃ g go, a3 = some ⟨g, go, none⟩ ∧ wr.cell? ⟨g, go + q, none⟩ = some (S Q3[q]) := by
                obtain ⟨_, _, he, -, -, hx⟩ := HQX.out
                cases he
                rcases hx with hx | ⟨g, go, hg, hx⟩
                · exfalso; rw [hx] at h3; simp at h3
                · exact ⟨g, go, hg, cell_below HW.out (hx q Q3[q] (by simp [h3]))⟩
              have hkq : c[q].1 = Q3[q] := by
                have h4 : (c.map (·.1))[q]? = Q3[q]? := by rw [HKEYS.out]
                rw [List.getElem?_map, List.getElem?_eq_getElem h3c, List.getElem?_eq_getElem h3] at h4
                simpa using h4
              obtain ⟨gc, gco, rfl, mc1, mc2⟩ : ∃ g go, ca = some ⟨g, go, none⟩ ∧ wr.cell? ⟨g, go + q * 2, none⟩ = some (S Q3[q]) ∧ wr.cell? ⟨g, go + q * 2 + 1, none⟩ = some (.int .i64 c[q].2) := by
                obtain ⟨_, _, he, -, -, hx⟩ := HCX.out
                injection he with e1 e2 e3
                rcases hx with hx | ⟨g, go, hg, hx⟩
                · exfalso; rw [hx] at h3c; simp at h3c
                · obtain ⟨hx1, hx2⟩ := cnt_cells hx h3c
                  rw [hkq] at hx1
                  exact ⟨g, go, e1.trans hg, cell_below HW.out hx1, cell_below HW.out hx2⟩
              have hp1 := HPOS.out c[q] (List.getElem_mem h3c)
              have HST := Lib.hid (remC_step (n := TT) h3c)
              have hr1 := HRF.out q
              have hr2 := HRF.out (q + 1)
              rw [HST.out] at hr2
              clear hkq
              generalize Q3[q] = p at *
              generalize c[q].2 = n at *
              generalize remC c TT q = rm at *
              obtain ⟨wb, hwb, hbb, hz⟩ : ∃ wb, wb = wr.alloc (.cells #[S p, .int .i64 n] 41) ∧ Below wr.heap.size wr wb ∧ wb.heap[wr.heap.size]? = some (.cells #[S p, .int .i64 n] 41 (0, 0)) :=
                ⟨_, rfl, (Below.refl _ _).alloc (Nat.le_refl _) _, heap_alloc_new _ _⟩
              obtain ⟨⟨b0, b1⟩, -, -⟩ := box2 hz
              have mk2 := cell_below hbb mk
              have HWb := Lib.hid (below_chain HW.out hbb HW.out.size)
              have hn1 : ¬ n < 1 := by omega
              have hn1' : decide (n < 1) = false := decide_eq_false hn1
              have hw0 : IntKind.i64.wrap (rm - n) = rm - n := by rw [IntKind.wrap_i64]; omega
              clear hbb hz mk hr1 hr2
              go_upto_region 26 with fail
              rw [← hwb]
              clear hwb mc1 mc2
              go_quiet (fail)
              go_wp2
              go_roundw
              case rel => exact ⟨q + 1, by omega, by go_num, by rw [HST.out], Lib.hid (belowN HWb.out _)⟩
              case measure => simp [intOf]; omega
            · have h3' : ¬ (q : Int) < (Q3.length : Int) := by omega
              obtain rfl : q = Q3.length := by omega
              rw [show remC c TT Q3.length = 0 by rw [← hcl]; exact HRA.out]
              have CA := awake14_walk wr (HT.out.below HW2.out)
              go_wp2_with fail
              refine CA.mono ?_
              rintro e wy ⟨rfl, hby⟩
              have hBy := below_chain HW2.out hby (Below.size HW2.out)
              go_wp2
              go_ret
              exact ⟨rfl, hBy⟩
end Go.Proofs.YtaompdnnkfmjhaaGreatDoor
