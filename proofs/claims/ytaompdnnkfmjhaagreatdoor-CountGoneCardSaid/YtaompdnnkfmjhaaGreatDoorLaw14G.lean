/- CountGone: as soon as all roots are gone nothing is counted; in whichever order they came it is the same. -/
import Derived.Test.YtaompdnnkfmjhaaGreatDoorJTwoP
import Derived.Test.YtaompdnnkfmjhaaGreatDoorJTwo14C
import Derived.Test.YtaompdnnkfmjhaaGreatDoorJReady12
import Derived.Test.YtaompdnnkfmjhaaGreatDoorR14Same
import Derived.Test.YtaompdnnkfmjhaaGreatDoorJRBuild12
namespace Go.Proofs.YtaompdnnkfmjhaaGreatDoor
open Go.RowKit

theorem two_perm (a b k : List UInt8) : ([a] ++ [b]).count k = ([b] ++ [a]).count k := by
  simp only [List.count_append]; omega
theorem one_less (a b k : List UInt8) : ([a] ++ [b]).count k = [b].count k + if k = a then 1 else 0 := by
  rw [List.count_append, List.count_cons (a := k), List.count_nil]
  by_cases e : k = a
  · subst e; simp; omega
  · simp [e, Ne.symm e]
theorem none_less (b k : List UInt8) : [b].count k = ([] : List (List UInt8)).count k + if k = b then 1 else 0 := by
  rw [List.count_cons, List.count_nil]
  by_cases e : k = b
  · subst e; simp
  · simp [e, Ne.symm e]

set_option maxHeartbeats 16000000 in
set_option maxRecDepth 100000 in
theorem gone14_walk (x y z : Int) (v : Value) (l : List Itm) (vm : Value) (m : List Itm) (w : World) (hT : ErrT w) (hr : ItRow w v l) (hd : ∀ i ∈ l, i.2.2.2.length ≤ 140737488355328) (hr2 : ItRow w vm m) (hd2 : ∀ i ∈ m, i.2.2.2.length ≤ 140737488355328) :
    Calls Tryz.prog 6 #[.agg #[.int .i64 x, .int .i64 y, .int .i64 z], v, vm] w fun e w' => e = .returned (.bool true) ∧ Below w.heap.size w w' := by
  obtain ⟨w1, hw1, HB1, HC1⟩ : ∃ w1, w1 = w.alloc (.cells #[.int .i64 x, .int .i64 y, .int .i64 z] 51) ∧ Hid (Below w.heap.size w w1) ∧ Hid (w1.heap[w.heap.size]? = some (.cells #[.int .i64 x, .int .i64 y, .int .i64 z] 51 (0, 0))) :=
    ⟨_, rfl, Lib.hid ((Below.refl _ _).alloc (Nat.le_refl _) _), Lib.hid (heap_alloc_new _ _)⟩
  have C1 := few14_walk x y z v l w1 (hr.below HB1.out) hd
  have HR := Lib.hid hr
  have HR2 := Lib.hid hr2
  have HD2 := Lib.hid hd2
  have HT := Lib.hid hT
  obtain ⟨a, c, rfl, -, -, -⟩ := hr
  obtain ⟨a2, c2, rfl, -, -, -⟩ := hr2
  have c0 := heap_cell HC1.out (j := 0) (v := .int .i64 x) rfl
  have c1 := heap_cell HC1.out (j := 1) (v := .int .i64 y) rfl
  have c2' := heap_cell HC1.out (j := 2) (v := .int .i64 z) rfl
  clear hT hd hd2
  go_enter Tryz.func6, Tryz.ntmps6
  go_upto_region 1 with fail
  rw [← hw1]
  clear hw1
  go_wp2_with fail
  refine C1.mono ?_
  rintro e w2 ⟨f, rfl, hf, hb2⟩
  have HB2 := Lib.hid (below_chain HB1.out hb2 HB1.out.size)
  have HC2 := Lib.hid ((hb2.block _ (heap_lt HC1.out)).trans HC1.out)
  have HF := Lib.hid hf
  clear C1 c0 c1 c2' hb2 hf
  cases f with
  | false => (have CA := awake14_walk w2 (HT.out.below HB2.out); go_wp2_with fail; refine CA.mono ?_; rintro e wy ⟨rfl, hby⟩; have hBy := below_chain HB2.out hby (Below.size HB2.out); go_wp2; go_ret; exact ⟨rfl, hBy⟩)
  | true =>
  have c0 := heap_cell HC2.out (j := 0) (v := .int .i64 x) rfl
  have c1 := heap_cell HC2.out (j := 1) (v := .int .i64 y) rfl
  have c2' := heap_cell HC2.out (j := 2) (v := .int .i64 z) rfl
  have C2 := few14_walk x y z (.slice a2 m.length c2) m w2 (HR2.out.below HB2.out) HD2.out
  go_wp2_with fail
  refine C2.mono ?_
  rintro e w3 ⟨f, rfl, hf, hb3⟩
  have HB3 := Lib.hid (below_chain HB2.out hb3 HB2.out.size)
  have HC3 := Lib.hid ((hb3.block _ (heap_lt HC2.out)).trans HC2.out)
  have HF2 := Lib.hid hf
  clear C2 c0 c1 c2' hb3 hf
  cases f with
  | false => (have CA := awake14_walk w3 (HT.out.below HB3.out); go_wp2_with fail; refine CA.mono ?_; rintro e wy ⟨rfl, hby⟩; have hBy := below_chain HB3.out hby (Below.size HB3.out); go_wp2; go_ret; exact ⟨rfl, hBy⟩)
  | true =>
  obtain ⟨⟨x', k, z', hfc, hxe, hye, hze, hrd⟩, hl70, hs1, -⟩ := HF.out (by first | rfl | trivial)
  obtain ⟨⟨x2, k2, z2, hfc2, hxe2, hye2, hze2, hrd2⟩, hm70, hs2, -⟩ := HF2.out (by first | rfl | trivial)
  obtain rfl : x2 = x' := by omega
  obtain rfl : z2 = z' := by omega
  have hkk : 2 ^ k2 = 2 ^ k := by omega
  obtain rfl : k2 = k := by
    rcases Nat.lt_trichotomy k2 k with h | h | h
    · have := Nat.pow_lt_pow_right (a := 2) (by decide) h; omega
    · exact h
    · have := Nat.pow_lt_pow_right (a := 2) (by decide) h; omega
  subst hxe
  subst hye
  subst hze
  have CTW : Calls Tryz.prog 22 #[.agg #[.int .i64 (x2 : Nat), .int .i64 ((2 ^ k2 : Nat) : Int), .int .i64 (z2 : Nat)], _, _] _ _ := two14_walk x2 k2 (2 ^ k2) z2 (.slice a l.length c) (.slice a2 m.length c2) l m w3 hfc rfl hrd hrd2 (HR.out.below HB3.out) (HR2.out.below HB3.out)
  have HO := Lib.hid (two_of hrd hrd2 hl70 hm70 hs1 hs2)
  have c0 := heap_cell HC3.out (j := 0) (v := .int .i64 (x2 : Nat)) rfl
  have c1 := heap_cell HC3.out (j := 1) (v := .int .i64 ((2 ^ k2 : Nat) : Int)) rfl
  have c2' := heap_cell HC3.out (j := 2) (v := .int .i64 (z2 : Nat)) rfl
  clear hfc hfc2 hrd hrd2 HF HF2 hkk hye2 hxe2 hze2 hl70 hm70 hs1 hs2
  generalize keyN (dirN (piecesC x2 k2 z2) l 9 []) = ka at *
  generalize keyN (dirN (piecesC x2 k2 z2) m 9 []) = kb at *
  generalize (dirO (piecesC x2 k2 z2) m 9 [] []).foldl addO (dirO (piecesC x2 k2 z2) l 9 [] []) = o at *
  generalize 2 ^ k2 = y at *
  go_wp2_with fail
  refine CTW.mono ?_
  rintro e w4 ⟨ov, rfl, ho, hb4⟩
  have HB4 := Lib.hid (below_chain HB3.out hb4 HB3.out.size)
  have HO4 := Lib.hid ho
  have P1 := plus2_walk HO.out (.slice none 0 0) ov [] [] ka w4 (cnt_nil w4) (CntT.nil o) (by simp) HO.out.ha ho (HT.out.below HB4.out)
  obtain ⟨oa, oc, rfl, -, -, -⟩ := ho
  clear CTW c0 c1 c2' hb4
  go_wp2_with fail
  refine P1.mono ?_
  rintro e w5 ⟨xv, xc, rfl, hx5, hxt, hb5⟩
  have HB5 := Lib.hid (below_chain HB4.out hb5 HB4.out.size)
  have HO5 := Lib.hid (HO4.out.below hb5)
  have P2 := plus2_walk HO.out xv _ xc _ kb w5 hx5 hxt (by simp) HO.out.hb HO5.out (HT.out.below HB5.out)
  obtain ⟨xa, xn, rfl⟩ := row_slice hx5
  clear P1 hx5 hxt hb5
  go_wp2_with fail
  refine P2.mono ?_
  rintro e w6 ⟨xv2, xc2, rfl, hx6, hxt, hb6⟩
  have HB6 := Lib.hid (below_chain HB5.out hb6 HB5.out.size)
  have HO6 := Lib.hid (HO5.out.below hb6)
  have HX6 := Lib.hid hx6
  have HXT := Lib.hid hxt
  have P3 := plus2_walk HO.out (.slice none 0 0) _ [] [] kb w6 (cnt_nil w6) (CntT.nil o) (by simp) HO.out.hb HO6.out (HT.out.below HB6.out)
  obtain ⟨xa2, xn2, rfl⟩ := row_slice hx6
  clear P2 hx6 hxt hb6
  go_wp2_with fail
  refine P3.mono ?_
  rintro e w7 ⟨yv, yc, rfl, hy7, hyt, hb7⟩
  have HB7 := Lib.hid (below_chain HB6.out hb7 HB6.out.size)
  have HO7 := Lib.hid (HO6.out.below hb7)
  have HX7 := Lib.hid (HX6.out.below hb7)
  have P4 := plus2_walk HO.out yv _ yc _ ka w7 hy7 hyt (by simp) HO.out.ha HO7.out (HT.out.below HB7.out)
  obtain ⟨ya, yn, rfl⟩ := row_slice hy7
  clear P3 hy7 hyt hb7
  go_wp2_with fail
  refine P4.mono ?_
  rintro e w8 ⟨yv2, yc2, rfl, hy8, hyt, hb8⟩
  have HB8 := Lib.hid (below_chain HB7.out hb8 HB7.out.size)
  have HO8 := Lib.hid (HO7.out.below hb8)
  have HX8 := Lib.hid (HX7.out.below hb8)
  have hlx := (HXT.out.okC HO.out).2
  have hly := (hyt.okC HO.out).2
  obtain rfl : xc2 = yc2 := HXT.out.one HO.out hyt (two_perm ka kb)
  have CS := r14same_walk _ _ xc2 xc2 w8 HX8.out hy8 (by omega) (by omega)
  rw [decide_eq_true (rfl : xc2 = xc2)] at CS
  obtain ⟨ya2, yn2, rfl⟩ := row_slice hy8
  clear P4 hy8 hyt hb8
  go_wp2_with fail
  refine CS.mono ?_
  rintro e w9 ⟨rfl, hb9⟩
  have HB9 := Lib.hid (below_chain HB8.out hb9 HB8.out.size)
  have HO9 := Lib.hid (HO8.out.below hb9)
  have HX9 := Lib.hid (HX8.out.below hb9)
  have CNN := cN_walk _ xc2 ka w9 HX9.out (by omega)
  have hn1 : ¬ cntC xc2 ka < 1 := by have := HXT.out.root (r := ka) (by simp); omega
  generalize cntC xc2 ka = n1 at *
  clear CS hb9
  go_wp2_with fail
  refine CNN.mono ?_
  rintro e wa ⟨rfl, hba⟩
  have HBA := Lib.hid (below_chain HB9.out hba HB9.out.size)
  have HOA := Lib.hid (HO9.out.below hba)
  have HXA := Lib.hid (HX9.out.below hba)
  have M1 := minus2_walk HO.out _ _ xc2 _ [kb] ka wa HXA.out HXT.out (by simp) (one_less ka kb) (fun k hk => by rw [List.mem_singleton.1 hk]; exact HO.out.hb) (by simp) HOA.out (HT.out.below HBA.out)
  clear CNN hba
  go_wp2_with fail
  refine M1.mono ?_
  rintro e wb ⟨mv, mc, rfl, hmb, hmt, hbb⟩
  have HBB := Lib.hid (below_chain HBA.out hbb HBA.out.size)
  have HOB := Lib.hid (HOA.out.below hbb)
  have M2 := minus2_walk HO.out mv _ mc _ [] kb wb hmb hmt (by simp) (none_less kb) (by simp) (by simp) HOB.out (HT.out.below HBB.out)
  obtain ⟨ma, mn, rfl⟩ := row_slice hmb
  clear M1 hmb hmt hbb
  go_wp2_with fail
  refine M2.mono ?_
  rintro e wc ⟨mv2, mc2, rfl, hmc, hmt, hbc⟩
  have HBC := Lib.hid (below_chain HBB.out hbc HBB.out.size)
  have HOC := Lib.hid (HOB.out.below hbc)
  obtain rfl : mc2 = [] := hmt.one HO.out (CntT.nil o) (fun _ => rfl)
  have M3 := minus0_walk HO.out mv2 _ ka wc hmc HO.out.ha HOC.out (HT.out.below HBC.out)
  obtain ⟨ma2, mn2, rfl⟩ := row_slice hmc
  clear M2 hmc hmt hbc
  go_wp2_with fail
  refine M3.mono ?_
  rintro e wd ⟨mv3, rfl, hmd, hbd⟩
  have HBD := Lib.hid (below_chain HBC.out hbd HBC.out.size)
  have CA := awake14_walk wd (HT.out.below HBD.out)
  obtain ⟨ma3, mn3, rfl⟩ := row_slice hmd
  clear M3 hmd hbd
  go_wp2_with fail
  refine CA.mono ?_
  rintro e wy ⟨rfl, hby⟩
  have hBy := below_chain HBD.out hby (Below.size HBD.out)
  go_wp2
  go_ret
  exact ⟨rfl, hBy⟩
end Go.Proofs.YtaompdnnkfmjhaaGreatDoor
