/- keys.Of: the set of those keys that are keys. node.Kids: the set of the keys that a node names. Inside a fence, in a round, too: regions that draw their order: the first m operations, quiet in a class of worlds, are walked once; then those that wait for all of them. No program in sight. -/
import Derived.Test.YtkejdbidomlonaaGreatDoorJBuildPlain
import Derived.Test.YtkejdbidomlonaaGreatDoorJReachP
import Derived.Test.YtkejdbidomlonaaGreatDoorShelf
import Derived.Sort.OwnSorted
import Derived.Sort.Grow
import Derived.Lib.OwnBridge
import Derived.Test.YtkejdbidomlonaaGreatDoorJNodeFit
import Derived.Test.YtkejdbidomlonaaGreatDoorJPSha
import Derived.Sort.BigQuietIn
import Derived.TacticsIn
namespace Go.Proofs.YtkejdbidomlonaaGreatDoor
open Go.RowKit

theorem kclone_walk (v : Value) (l : List (List UInt8)) (w : World) (hr : StrRow w v l) (hcnt : l.length ≤ 1100000) :
    Calls Tryz.prog 59 #[v] w fun e w' => ∃ v', e = .returned v' ∧ w'.ownsRow w.heap.size 9 1 v' l.length (l.map S) ∧ Below w.heap.size w w' := by
  obtain ⟨a, c, rfl, hc, hm, hx⟩ := hr
  rcases hx with rfl | ⟨b, o, rfl, hx⟩
  · cases a with
    | none => exact (Tryz.slices_Clone_string_nil _ _ w).mono fun e w' ⟨h1, h2⟩ => ⟨_, h1, by rw [h2]; exact World.ownsRow_nil _ _ _ _, by rw [h2]; exact Below.refl _ _⟩
    | some a => exact (Tryz.slices_Clone_string_zero a _ w).mono fun e w' ⟨v', h1, h2, _, h3⟩ => ⟨v', h1, h2, h3⟩
  · refine (Tryz.slices_Clone_string b o l.length c (l.map fun x => ⟨x.toArray⟩) w (by simp) (by omega) (fun j hj => ?_)).mono fun e w' ⟨v', h1, h2, _, h3⟩ => ⟨v', h1, ?_, h3⟩
    · have hj2 : j < l.length := by simpa using hj
      have h := hx j l[j] (by simp [hj2])
      rw [h]
      simp [List.getD, hj2, S]
    · have e : (List.take l.length (l.map fun x => (⟨x.toArray⟩ : ByteArray))).map Value.string = l.map S := by
        rw [List.take_of_length_le (by simp), List.map_map]; rfl
      rwa [e] at h2

/-- What stands behind the sort and the compaction: the set, in the same cells. -/
theorem ksort_walk (B : Nat) (v : Value) (l : List (List UInt8)) (w : World) (hown : w.ownsRow B 9 1 v l.length (l.map S)) (hB : B ≤ w.heap.size) (hcnt : l.length ≤ 1100000) :
    Calls Tryz.prog 61 #[v] w fun e w' => e = .returned (.tuple #[]) ∧ w'.ownsRow B 9 1 v l.length ((l.mergeSort fun x y => decide (x ≤ y)).map S) ∧ Below B w w' := by
  rcases hown.2 with ⟨rfl, h2⟩ | ⟨g, cap, cur, rfl, hbg, hg, hnc, hcm, hcs, htk⟩
  · have hl : l = [] := by
      cases l with
      | nil => rfl
      | cons => simp at h2
    subst hl
    exact (Tryz.slices_Sort_string_none none 0 w).mono fun e w' ⟨h1, h3⟩ => ⟨h1, by rw [h3]; simpa using hown, by rw [h3]; exact Below.refl _ _⟩
  · have hgw : g < w.heap.size := heap_lt hg
    have hH : Go.Sort.Holds encStr w g 0 l.toArray := holds_of_block hg (by rw [Nat.mul_one] at htk; exact htk)
    refine (Tryz.slices_Sort_string g 0 cap l w hH hgw (by omega)).mono fun e w' ⟨h1, n, os, h2⟩ => ⟨h1, ?_, ?_⟩
    · rw [h2]
      exact ownsRow_sorted (List.length_mergeSort l) hbg hg hnc hcm hcs
    · rw [h2]
      exact (Below.refl B w).grown (grownBy_sorted _) hB (fun j hj => by cases hj; exact hbg)
theorem kcompact_walk (B : Nat) (v : Value) (l : List (List UInt8)) (w : World) (hown : w.ownsRow B 9 1 v l.length (l.map S)) (hcnt : l.length ≤ 1100000) :
    Calls Tryz.prog 62 #[v] w fun e w' => ∃ v', e = .returned v' ∧ w'.ownsRow B 9 1 v' (Lib.compact l).length ((Lib.compact l).map S) ∧ Below B w w' := by
  rcases hown.2 with ⟨rfl, h2⟩ | ⟨g, cap, cur, rfl, hbg, hg, hnc, hcm, hcs, htk⟩
  · have hl : l = [] := by
      cases l with
      | nil => rfl
      | cons => simp at h2
    subst hl
    exact (Tryz.slices_Compact_string_empty none 0 w).mono fun e w' ⟨h1, h3⟩ => ⟨_, h1, by rw [h3]; exact World.ownsRow_nil _ _ _ _, by rw [h3]; exact Below.refl _ _⟩
  · have hH : Go.Sort.Holds encStr w g 0 l.toArray := holds_of_block hg (by rw [Nat.mul_one] at htk; exact htk)
    have hle := Lib.compact_length_le l
    refine (Tryz.slices_Compact_string g 0 cap l w hH (by omega) hnc).mono fun e w' ⟨h1, q, h2⟩ => ⟨_, h1, ?_, ?_⟩
    · rw [h2]
      have h3 := Lib.ownsRow_putRow (q := q) (k := (Lib.compact l).length) (ys := Lib.compact l ++ List.replicate (l.length - (Lib.compact l).length) []) hown (by simp; omega) (by omega)
      rw [List.take_left] at h3
      exact h3
    · rw [h2]
      exact Lib.below_putRow (Below.refl B w) hbg

theorem kof1_walk (x : List UInt8) (w : World) : Calls Tryz.prog 60 #[S x] w fun e w' => e = .returned (.bool (!len32 x)) ∧ Below w.heap.size w w' := by
  by_cases h : x.length = 32
  · have h1 : ((x.length : Int) != 32) = false := by rw [bne_eq_false_iff_eq]; omega
    have h2 : Hid ((!len32 x) = false) := Lib.hid (by simp [len32, h])
    clear h
    go_enter Tryz.func60, Tryz.ntmps60
    go_wp2
    go_ret
    exact ⟨by rw [h2.out]; rfl, Below.refl _ _⟩
  · have h1 : ((x.length : Int) != 32) = true := by rw [bne_iff_ne]; omega
    have h2 : Hid ((!len32 x) = true) := Lib.hid (by simp [len32, h])
    clear h
    go_enter Tryz.func60, Tryz.ntmps60
    go_wp2
    go_ret
    exact ⟨by rw [h2.out]; rfl, Below.refl _ _⟩

set_option maxHeartbeats 1000000 in
/-- THE WALK. -/
theorem kof2_walk (v : Value) (l : List (List UInt8)) (w : World) (hr : StrRow w v l) (hcnt : l.length ≤ 1100000) :
    Calls Tryz.prog 33 #[v] w fun e w' => ∃ v', e = .returned v' ∧ w'.ownsRow w.heap.size 9 1 v' (setOf l).length ((setOf l).map S) ∧ Below w.heap.size w w' := by
  have C1 := kclone_walk v l w hr hcnt
  have HCNT := Lib.hid hcnt
  have HF := Lib.hid (show l.filter (fun x => !(!len32 x)) = l.filter len32 from by simp)
  have HFL := Lib.hid (Nat.le_trans (List.length_filter_le len32 l) hcnt)
  have HSET := Lib.hid (compact_set l)
  have HSL := Lib.hid (show ((l.filter len32).mergeSort fun x y => decide (x ≤ y)).length = (l.filter len32).length from List.length_mergeSort _)
  clear hr hcnt
  go_enter Tryz.func33, Tryz.ntmps33
  go_wp2_with fail
  refine C1.mono ?_
  rintro e w1 ⟨v1, rfl, ho1, hb1⟩
  have C2 := delStr_walk 60 #[] (fun x => !len32 x) w.heap.size v1 l w1 ho1 HCNT.out hb1.size (enters_of Tryz.func60 (by kernel_rfl) rfl) (StrRow.of_owns ho1) (fun x w' _ => kof1_walk x w')
  rw [HF.out] at C2
  clear C1 ho1
  go_wp2_with fail
  refine C2.mono ?_
  rintro e w2 ⟨v2, rfl, ho2, hb2⟩
  have hB2 := hb1.trans hb2
  have C3 := ksort_walk w.heap.size v2 (l.filter len32) w2 ho2 hB2.size HFL.out
  clear C2 ho2 hb1 hb2
  go_wp2_with fail
  refine C3.mono ?_
  rintro e w3 ⟨rfl, ho3, hb3⟩
  have hB3 := hB2.trans hb3
  have C4 := kcompact_walk w.heap.size v2 ((l.filter len32).mergeSort fun x y => decide (x ≤ y)) w3 (by rw [HSL.out]; exact ho3) (by rw [HSL.out]; exact HFL.out)
  rw [HSET.out] at C4
  clear C3 ho3 hB2 hb3
  go_wp2_with fail
  refine C4.mono ?_
  rintro e w4 ⟨v4, rfl, ho4, hb4⟩
  have HR := Lib.hid ho4
  have hB4 := hB3.trans hb4
  clear ho4 hb4 C4
  go_wp2
  go_ret
  exact ⟨_, rfl, HR.out, hB4⟩
theorem kof_walk (v : Value) (l : List (List UInt8)) (w : World) (hr : StrRow w v l) (hcnt : l.length ≤ 1100000) :
    Calls Tryz.prog 33 #[v] w fun e w' => ∃ v', e = .returned v' ∧ StrRow w' v' (setOf l) ∧ Below w.heap.size w w' := by
  refine (kof2_walk v l w hr hcnt).mono ?_
  rintro e w' ⟨v', rfl, h, hb⟩
  exact ⟨v', rfl, StrRow.of_owns h, hb⟩
end Go.Proofs.YtkejdbidomlonaaGreatDoor

namespace Go.Proofs.YtkejdbidomlonaaGreatDoor
open Go.RowKit

set_option maxHeartbeats 4000000 in
set_option maxRecDepth 100000 in
theorem pkids2_walk (vp ve : Value) (n : Nod) (w : World) (hr : NodRow w n vp ve) (hcnt : n.parts.length + n.ents.length ≤ 1100000) :
    Calls Tryz.prog 57 #[NodV n vp ve] w fun e w' => ∃ v', e = .returned v' ∧ w'.ownsRow w.heap.size 9 1 v' (kidsN n).length ((kidsN n).map S) ∧ Below w.heap.size w w' := by
  obtain ⟨i0, hi, hz0, hz1, hz2⟩ := info_parts infoStr
  obtain ⟨w1, hw1, HB1, HZ⟩ : ∃ w1, w1 = w.alloc (.cells #[.int .i64 n.kind, S n.data, vp, ve] 77) ∧ Hid (Below w.heap.size w w1) ∧ Hid (w1.heap[w.heap.size]? = some (.cells #[.int .i64 n.kind, S n.data, vp, ve] 77 (0, 0))) :=
    ⟨_, rfl, (Below.refl _ _).alloc (Nat.le_refl _) _, heap_alloc_new _ _⟩
  have HR := Lib.hid hr
  obtain ⟨va, vc, rfl⟩ := row_slice hr.parts
  obtain ⟨ua, uc, rfl⟩ := row_slice hr.ents
  obtain ⟨⟨z0, z1, z2, z3⟩, -, -⟩ := box4 HZ.out
  unfold kidsN
  clear hr
  go_enter Tryz.func57, Tryz.ntmps57
  go_upto_region 1 with fail
  rw [← hw1]
  clear hw1
  go_wp2
  go_loopw [3, 11] (fun v i wr => ∃ (k : Nat) (dn : List (List UInt8)), k ≤ n.parts.length ∧ i = .int .i64 k ∧ dn = (n.parts.take k).map (fun p : Prt => p.1) ∧ dn.length = k ∧ wr.ownsRow w1.heap.size 9 1 v dn.length (dn.map S) ∧ Below w1.heap.size w1 wr) (fun _ i _ => n.parts.length - (intOf i).toNat)
  case atStart => exact ⟨0, [], Nat.zero_le _, rfl, rfl, rfl, World.ownsRow_nil _ _ _ _, Below.refl _ _⟩
  case round =>
    obtain ⟨k, dn, hk, rfl, hdn, hdk, hown, hB⟩ := hrel
    have HDN := Lib.hid hdn
    have HDK := Lib.hid hdk
    have hdl : dn.length ≤ 1100000 := by omega
    clear hdn hdk
    have hsz := hB.size
    have hbb := below_chain HB1.out hB HB1.out.size
    by_cases hlt : k < n.parts.length
    · have hlt' : (k : Int) < (n.parts.length : Int) := by omega
      obtain ⟨a0, c0, hv, -, -, hx⟩ := HR.out.parts
      obtain ⟨g1, g2⟩ : va = a0 ∧ vc = c0 := by cases hv; exact ⟨rfl, rfl⟩
      subst g1 g2
      clear hv
      rcases hx with hx | ⟨b, o, rfl, hx⟩
      · exfalso; rw [hx] at hlt; simp at hlt
      obtain ⟨hc1, hc2⟩ := prt_cells hx hlt
      replace hc1 := cell_below hbb hc1
      replace hc2 := cell_below hbb hc2
      have HTK := Lib.hid (show dn ++ [n.parts[k].1] = (n.parts.take (k + 1)).map (fun p : Prt => p.1) by rw [List.take_succ_eq_append_getElem hlt, List.map_append, HDN.out]; simp)
      clear hx hbb
      generalize n.parts[k] = y at *
      obtain ⟨key, sz⟩ := y
      simp only at hc1 hc2
      go_wp2_with (at_builtin; refine wpList_append_own _ rfl _ _ 38 rfl w1.heap.size 9 i0 (.string ⟨#[]⟩) 1 16 Tryz.underlying38 hi hz0 hz1 hz2 rfl (by decide) _ _ _ rfl ((hown.alloc _).alloc _) ⟨wr.heap.size + 1, 0, none⟩ 1 1 [S key] rfl rfl (new_cell_at (by simp) _ _) (by intro u hu; simp at hu; subst hu; rfl) (by unfold maxLen; omega) (by omega) (by simp; omega) ?_)
      intro v' w2 hown' hgrow _
      have hB2 : Below w1.heap.size w1 w2 := ((hB.alloc hsz _).alloc (by simp; omega) _).grown hgrow (by simp; omega) (fun j hj => (hown.lt j hj).1)
      clear hgrow hown hB hc1 hc2
      go_wp2
      go_roundw
      case rel => exact ⟨k + 1, dn ++ [key], by omega, by go_num, HTK.out, by have := HDK.out; simp; omega, by rw [List.length_append, List.map_append]; exact hown', hB2⟩
      case measure => simp [intOf]; omega
    · have hlt' : ¬ (k : Int) < (n.parts.length : Int) := by omega
      obtain rfl : k = n.parts.length := by omega
      have HDN0 := Lib.hid (show dn = n.parts.map (fun p : Prt => p.1) by rw [HDN.out, List.take_of_length_le (Nat.le_refl _)])
      have HDK0 := HDK
      have HO0 := Lib.hid hown
      have HB0 := Lib.hid hB
      have hz2 := (hB.block _ (heap_lt HZ.out)).trans HZ.out
      obtain ⟨⟨y0, y1, y2, y3⟩, -, -⟩ := box4 hz2
      obtain ⟨dn0, rfl⟩ : ∃ dn0, dn0 = dn := ⟨_, rfl⟩
      clear hown hB hbb z0 z1 z2 z3 HDN HDK hz2
      go_wp2
      go_loopw [3, 24] (fun v i wr => ∃ (k : Nat) (dn : List (List UInt8)), k ≤ n.ents.length ∧ i = .int .i64 k ∧ dn = n.parts.map (fun p : Prt => p.1) ++ (n.ents.take k).map (fun e : Ent => e.2.2.2) ∧ dn.length = n.parts.length + k ∧ wr.ownsRow w1.heap.size 9 1 v dn.length (dn.map S) ∧ Below w1.heap.size w1 wr) (fun _ i _ => n.ents.length - (intOf i).toNat)
      case atStart => exact ⟨0, dn0, Nat.zero_le _, rfl, by rw [HDN0.out]; simp, by rw [HDK0.out]; rfl, HO0.out, HB0.out⟩
      case round =>
        obtain ⟨k, dn, hk, rfl, hdn, hdk, hown, hB⟩ := hrel
        have HDN := Lib.hid hdn
        have HDK := Lib.hid hdk
        have hdl : dn.length ≤ 1100000 := by omega
        clear hdn hdk
        have hsz := hB.size
        have hbb := below_chain HB1.out hB HB1.out.size
        by_cases hlt : k < n.ents.length
        · have hlt' : (k : Int) < (n.ents.length : Int) := by omega
          obtain ⟨a0, c0, hv, -, -, hx⟩ := HR.out.ents
          obtain ⟨g1, g2⟩ : ua = a0 ∧ uc = c0 := by cases hv; exact ⟨rfl, rfl⟩
          subst g1 g2
          clear hv
          rcases hx with hx | ⟨b, o, rfl, hx⟩
          · exfalso; rw [hx] at hlt; simp at hlt
          obtain ⟨hc1, hc2, hc3, hc4⟩ := ent_cells hx hlt
          replace hc1 := cell_below hbb hc1
          replace hc2 := cell_below hbb hc2
          replace hc3 := cell_below hbb hc3
          replace hc4 := cell_below hbb hc4
          have HTK := Lib.hid (show dn ++ [n.ents[k].2.2.2] = n.parts.map (fun p : Prt => p.1) ++ (n.ents.take (k + 1)).map (fun e : Ent => e.2.2.2) by rw [List.take_succ_eq_append_getElem hlt, List.map_append, HDN.out]; simp)
          clear hx hbb
          generalize n.ents[k] = y at *
          obtain ⟨nm, ek, ex, key⟩ := y
          simp only at hc1 hc2 hc3 hc4
          go_wp2_with (at_builtin; refine wpList_append_own _ rfl _ _ 38 rfl w1.heap.size 9 i0 (.string ⟨#[]⟩) 1 16 Tryz.underlying38 hi hz0 hz1 hz2 rfl (by decide) _ _ _ rfl ((hown.alloc _).alloc _) ⟨wr.heap.size + 1, 0, none⟩ 1 1 [S key] rfl rfl (new_cell_at (by simp) _ _) (by intro u hu; simp at hu; subst hu; rfl) (by unfold maxLen; omega) (by omega) (by simp; omega) ?_)
          intro v' w2 hown' hgrow _
          have hB2 : Below w1.heap.size w1 w2 := ((hB.alloc hsz _).alloc (by simp; omega) _).grown hgrow (by simp; omega) (fun j hj => (hown.lt j hj).1)
          clear hgrow hown hB hc1 hc2 hc3 hc4
          go_wp2
          go_roundw
          case rel => exact ⟨k + 1, dn ++ [key], by omega, by go_num, HTK.out, by have := HDK.out; simp; omega, by rw [List.length_append, List.map_append]; exact hown', hB2⟩
          case measure => simp [intOf]; omega
        · have hlt' : ¬ (k : Int) < (n.ents.length : Int) := by omega
          obtain rfl : k = n.ents.length := by omega
          have HTL := Lib.hid (show dn = kidsL n by rw [HDN.out, List.take_of_length_le (Nat.le_refl _)]; rfl)
          have C := kof2_walk _ dn wr (StrRow.of_owns hown) hdl
          rw [HTL.out] at C
          have HBB := Lib.hid hbb
          have HWS := Lib.hid (show w.heap.size ≤ wr.heap.size from HBB.out.size)
          clear hown hB hbb
          go_wp2_with fail
          refine C.mono ?_
          rintro e w3 ⟨v3, rfl, hr3, hb3⟩
          have HR3 := Lib.hid hr3
          clear hr3 C
          go_wp2
          go_ret
          exact ⟨_, rfl, own_mono HWS.out HR3.out, below_chain HBB.out hb3 HBB.out.size⟩
theorem pkids_walk (vp ve : Value) (n : Nod) (w : World) (hr : NodRow w n vp ve) (hcnt : n.parts.length + n.ents.length ≤ 1100000) :
    Calls Tryz.prog 57 #[NodV n vp ve] w fun e w' => ∃ v', e = .returned v' ∧ StrRow w' v' (kidsN n) ∧ Below w.heap.size w w' := by
  refine (pkids2_walk vp ve n w hr hcnt).mono ?_
  rintro e w' ⟨v', rfl, h, hb⟩
  exact ⟨v', rfl, StrRow.of_owns h, hb⟩
end Go.Proofs.YtkejdbidomlonaaGreatDoor

namespace Go.Proofs.YtkejdbidomlonaaGreatDoor
open Go Go.RowKit

section
variable {F : Fence} {n : Nat} {P : Program} {ops : Array Oper} {md : Region.Mode} {C : World → Prop}

theorem wpIn_of_quietR {o : Oper} {a : Act} {K : Act → Prop} {K' : Act → World → Prop} {Q' : Exit → Act → World → Prop} {w : World} (hop : ∀ c, o.op ≠ .defer c) (hw : C w) (h : ∀ a w', C w' → K a → K' a w')
    (ha : o.askedIn F P a C) (hh : o.quietIn F n P a C K) : o.wpIn F n P a w K' Q' := by
  obtain ⟨v, h1, h2⟩ := hh
  have h3 := h1 w hw
  have hsem : o.semAt F.round a.eval = execOp a.eval o := by
    cases F.round with
    | none => exact Oper.semAt_none _ _
    | some l => exact Oper.semAt_some l _ o hop
  unfold Oper.quietAtIn at h3
  unfold Oper.wpIn
  refine ⟨ha w hw, ?_⟩
  rw [hsem]
  generalize (execOp a.eval o).run P w = r at *
  cases r with
  | ok x w' =>
    cases x <;> simp only [Oper.quietUponIn] at h3 <;> simp only [Oper.uponIn]
    case value u =>
      obtain ⟨e1, e2⟩ := h3
      rw [e1, e2]
      exact h _ _ hw h2
    case skip =>
      obtain ⟨e1, e2⟩ := h3
      rw [e1, ← e2]
      exact h _ _ hw h2
    case enter f args =>
      obtain ⟨e1, hd, hc⟩ := h3
      rw [e1]
      exact ⟨hd, hc.mono fun e w'' ⟨he, hw''⟩ => by subst he; exact h _ _ hw'' h2⟩
  | halt x w' => simp only [Oper.quietUponIn] at h3

theorem wpOpIn_of_qOpR {i : Nat} {a : Act} {K : Act → Prop} {K' : Act → World → Prop} {Q' : Exit → Act → World → Prop} {w : World} (hop : ∀ (i : Nat) (o : Oper), ops[i]? = some o → ∀ c, o.op ≠ .defer c) (hC : C w) (h : ∀ a w', C w' → K a → K' a w')
    (hh : qOpIn F n P ops C i K a) : wpOpIn F n P ops Q' i K' a w := by
  unfold qOpIn at hh
  unfold wpOpIn
  split
  · rename_i ho; simp only [ho] at hh; exact h _ _ hC hh
  · rename_i o ho
    simp only [ho] at hh
    obtain ⟨ha, hh⟩ := hh
    split
    · rename_i hw; simp only [hw, if_true] at hh; exact wpIn_of_quietR (hop i o ho) hC h ha hh
    · rename_i hw; simp only [hw] at hh; exact ⟨ha w hC, h _ _ hC hh⟩

def noDefer (l : List Oper) : Bool := l.all fun o => match o.op with | .defer _ => false | _ => true
theorem noDefer_spec {l : List Oper} (h : noDefer l = true) : ∀ (i : Nat) (o : Oper), l.toArray[i]? = some o → ∀ c, o.op ≠ .defer c := by
  intro i o ho c hc
  have hm : o ∈ l := List.mem_of_getElem? (by simpa using ho)
  have := List.all_eq_true.1 h o hm
  rw [hc] at this
  cases this

/-- Whatever order is picked of the first ones; then T. -/
def wpPreIn (F : Fence) (n : Nat) (P : Program) (md : Region.Mode) (ops : Array Oper) (C : World → Prop) (T : Array Bool → Act → Prop) : Nat → Array Bool → Act → Prop
  | 0, listed, a => T listed a
  | k + 1, listed, a => Region.ready md ops listed ≠ [] ∧ ∀ i ∈ Region.ready md ops listed, qOpIn F n P ops C i (wpPreIn F n P md ops C T k (listed.setIfInBounds i true)) a

theorem wpAnyIn_of_pre {Q' : Exit → Act → World → Prop} {f : Nat} (hop : ∀ (i : Nat) (o : Oper), ops[i]? = some o → ∀ c, o.op ≠ .defer c) : ∀ (k : Nat) (listed : Array Bool) (a : Act) (w : World), C w →
    wpPreIn F n P md ops C (fun listed a => ∀ w, C w → wpAnyIn F n P md ops Q' f listed a w) k listed a → wpAnyIn F n P md ops Q' (k + f) listed a w
  | 0, _, _, w, hw, h => by rw [Nat.zero_add]; exact h w hw
  | k + 1, _, _, w, hw, h => by
    rw [Nat.succ_add]
    exact ⟨fun h0 => absurd h0 h.1, fun i hi => wpOpIn_of_qOpR hop hw (fun a' w' hw' => wpAnyIn_of_pre hop k _ a' w' hw') (h.2 i hi)⟩

theorem wpPreIn_first {T : Array Bool → Act → Prop} {m i : Nat} {oi : Oper} {v : Value} (hi : ops[i]? = some oi) (hsel : ∀ (j : Nat) (o : Oper) cs b, ops[j]? = some o → o.op ≠ .select cs b) :
    ∀ (k : Nat) (listed : Array Bool) (a : Act), ahead md ops m (k + 1) listed = true →
      (∀ j oj, ops[j]? = some oj → j ≠ i → listed.getD j true = false → (∀ e ∈ oj.after, Region.binds md e = true → e.on ≠ i) → oi.apart ops oj = true) →
      i ∈ Region.ready md ops listed → YieldsQuiet F n P ops C oi v a →
      wpPreIn F n P md ops C T k (listed.setIfInBounds i true) (a.put oi.dst v) → wpPreIn F n P md ops C T (k + 1) listed a := by
  intro k
  induction k with
  | zero =>
    intro listed a hA _ hr hy H
    refine ⟨List.ne_nil_of_mem hr, fun j hj => ?_⟩
    by_cases hji : j = i
    · subst hji; exact hy.qOpIn hi H
    · exfalso
      have h1 := (ahead_at hA hr).2
      have h2 := (ahead_at hA hj).1
      simp only [ahead, List.all_eq_true, List.mem_range] at h1
      have h3 := h1 j h2
      rw [getD_set_ne true (Ne.symm hji), (mem_ready.1 hj).1] at h3
      cases h3
  | succ k ih =>
    intro listed a hA hfree hr hy H
    refine ⟨List.ne_nil_of_mem hr, fun j hj => ?_⟩
    by_cases hji : j = i
    · subst hji; exact hy.qOpIn hi H
    · have h1 := H.2 j (ready_mono hj hji)
      obtain ⟨hjun, oj, hoj, hall⟩ := mem_ready.1 hj
      have hnot : ∀ e ∈ oj.after, Region.binds md e = true → e.on ≠ i := fun e he hb heq => by
        have h1 := hall e he hb
        have h0 := (mem_ready.1 hr).1
        rw [heq] at h1
        rcases Nat.lt_or_ge i listed.size with h' | h'
        · simp [h'] at h0 h1; rw [h0] at h1; cases h1
        · simp [Array.getElem?_eq_none h'] at h1
      have h2 := qOpIn_put hoj (hfree j oj hoj hji hjun hnot) (fun cs b => hsel i oi cs b hi) (fun cs b => hsel j oj cs b hoj) hy h1
      have hfree' : ∀ k ok, ops[k]? = some ok → k ≠ i → (listed.setIfInBounds j true).getD k true = false →
          (∀ e ∈ ok.after, Region.binds md e = true → e.on ≠ i) → oi.apart ops ok = true := fun k ok hk hki hun hno => by
        refine hfree k ok hk hki ?_ hno
        by_cases hjk : j = k
        · subst hjk; exact hjun
        · rw [getD_set_ne true hjk] at hun; exact hun
      refine qOpIn_mono (fun a' h3 => ih (listed.setIfInBounds j true) a' (ahead_at hA hj).2 hfree' (ready_mono hr (Ne.symm hji)) h3.1 ?_) h2
      rw [Array.setIfInBounds_comm _ _ hji]
      exact h3.2

theorem wpPreIn_lex {Q : Act → Prop} {m : Nat} {L : Array Bool} (hs : Region.noSelect ops = true) : ∀ (l : List Oper) (k : Nat) (listed : Array Bool) (a : Act), (∀ j, j < l.length → l[j]? = ops[k + j]?) →
    lexPre md ops l.length k listed = true → ahead md ops m l.length listed = true → listedTo l.length k listed = L → wpQuietIn F n P ops C Q l a → wpPreIn F n P md ops C (fun listed a => listed = L ∧ Q a) l.length listed a
  | [], _, _, _, _, _, _, hL, h => ⟨hL, h⟩
  | o :: l, k, listed, a, hl, hB, hA, hL, h => by
    have h0 : ops[k]? = some o := by simpa using (hl 0 (by simp)).symm
    simp only [List.length_cons, lexPre, Bool.and_eq_true] at hB
    obtain ⟨⟨hr, hf⟩, hB'⟩ := hB
    have hst : qOpIn F n P ops C k (wpQuietIn F n P ops C Q l) a := by unfold qOpIn; simp only [h0]; exact h
    obtain ⟨v, hy, hK⟩ := yieldsQuiet_of_qOpIn h0 hst
    have hr' : k ∈ Region.ready md ops listed := by simpa using hr
    exact wpPreIn_first h0 (Region.noSelect_spec hs) l.length listed a hA (Region.free_spec h0 hf) hr' hy
      (wpPreIn_lex hs l (k + 1) _ _ (fun j hj => by have := hl (j + 1) (by simpa using hj); simpa [Nat.add_assoc, Nat.add_comm 1 j] using this) hB' (ahead_at hA hr').2 hL hK)

theorem wpPreIn_mono {T T' : Array Bool → Act → Prop} (h : ∀ l a, T l a → T' l a) : ∀ (k : Nat) (listed : Array Bool) (a : Act), wpPreIn F n P md ops C T k listed a → wpPreIn F n P md ops C T' k listed a
  | 0, _, _, hh => h _ _ hh
  | k + 1, _, _, hh => ⟨hh.1, fun i hi => qOpIn_mono (fun a' => wpPreIn_mono h k _ a') (hh.2 i hi)⟩

/-- The first m operations, walked once in a class of worlds; then the others, that wait for them. -/
theorem wpIn_tail_later {id : Nat} {Q : Exit → Act → World → Prop} {a : Act} {w : World} {l : List Oper} (m f : Nat) (hl : l.length = m + f) (hm : P.follows .mixedOrders = true) (hs : Region.noSelect l.toArray = true) (hd : noDefer l = true)
    (hB : lexPre .any l.toArray m 0 (Array.replicate (m + f) false) = true) (hA : ahead .any l.toArray m m (Array.replicate (m + f) false) = true)
    (h : wpQuietIn F n P l.toArray (fun w' => ∃ p : LaterOf w, w' = p.world) (fun a' => ∀ w', (∃ p : LaterOf w, w' = p.world) → wpAnyIn F n P .any l.toArray Q f (listedTo m 0 (Array.replicate (m + f) false)) a' w') (l.take m) a) : (Code.region id l.toArray true).wpIn F n P Q a w := by
  refine wpIn_region_any hm ?_
  rw [List.size_toArray, hl]
  have hlt : (l.take m).length = m := by rw [List.length_take]; omega
  refine wpAnyIn_of_pre (C := fun w' => ∃ p : LaterOf w, w' = p.world) (noDefer_spec hd) m _ a _ ⟨⟨{ w with drawn := w.drawn + 1 }, ⟨rfl, rfl, rfl, Nat.le_refl _, fun _ _ => rfl⟩⟩, rfl⟩ ?_
  have := wpPreIn_lex (F := F) (n := n) (md := .any) (m := m) (L := listedTo m 0 (Array.replicate (m + f) false)) hs (l.take m) 0 (Array.replicate (m + f) false) a (fun j hj => by
    rw [hlt] at hj
    rw [List.getElem?_take, if_pos hj]; simp) (by rw [hlt]; exact hB) (by rw [hlt]; exact hA) (by rw [hlt]) h
  rw [hlt] at this
  exact wpPreIn_mono (fun l a ⟨h1, h2⟩ => by subst h1; exact h2) _ _ _ this
theorem LaterOf.callIn {F : Fence} {n : Nat} {P : Program} {f : FuncId} {args : Array Value} {w : World} {v : Value} (p : LaterOf w)
    (h : CallsIn F n P f args p.world fun e w' => e = .returned v ∧ Below p.world.heap.size p.world w') : CallsIn F n P f args p.world fun e w'' => e = .returned v ∧ ∃ p' : LaterOf w, w'' = p'.world :=
  h.mono fun _ w' ⟨he, hb⟩ => ⟨he, ⟨w', below_chain p.below hb p.below.size⟩, rfl⟩
end
end Go.Proofs.YtkejdbidomlonaaGreatDoor
