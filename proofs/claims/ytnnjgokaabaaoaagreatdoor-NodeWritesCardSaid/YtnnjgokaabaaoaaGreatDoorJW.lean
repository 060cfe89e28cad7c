/- The reference's set of keys out of keys. The reference's Kids. node.Same. The reference's Key. The quick test of Ahead, for regions whose later operations wait for number m through others. -/
import Derived.Test.YtnnjgokaabaaoaaGreatDoorJKey
import Derived.Test.YtnnjgokaabaaoaaGreatDoorNodeB
import Derived.Test.YtnnjgokaabaaoaaGreatDoorJRow
import Derived.Test.YtnnjgokaabaaoaaGreatDoorR11g
import Derived.Test.YtnnjgokaabaaoaaGreatDoorPWr11b
import Derived.Test.YtnnjgokaabaaoaaGreatDoorR11c
import Derived.Test.YtnnjgokaabaaoaaGreatDoorJRSha
import Derived.Test.YtnnjgokaabaaoaaGreatDoorJTail
namespace Go.Proofs.YtnnjgokaabaaoaaGreatDoor
open Go.RowKit

theorem setOf_step {l : List (List UInt8)} {k : Nat} (h : k < l.length) : setOf (l.take (k + 1)) = if len32 l[k] then addL (setOf (l.take k)) l[k] else setOf (l.take k) := by
  unfold setOf
  rw [List.take_succ_eq_append_getElem h, List.filter_append, List.foldl_append]
  by_cases hk : len32 l[k] = true
  · rw [if_pos hk, List.filter_cons_of_pos hk]; rfl
  · rw [if_neg hk, List.filter_cons_of_neg hk]; rfl

set_option maxHeartbeats 2000000 in
set_option maxRecDepth 100000 in
theorem rof_walk (v : Value) (l : List (List UInt8)) (w : World) (hr : StrRow w v l) (hcnt : l.length ≤ 1100000) :
    Calls Tryz.prog 47 #[v] w fun e w' => ∃ v', e = .returned v' ∧ StrRow w' v' (setOf l) ∧ Below w.heap.size w w' := by
  obtain ⟨a, c, rfl, hc, hm, hx⟩ := hr
  have HX := Lib.hid hx
  clear hx
  go_enter Tryz.func47, Tryz.ntmps47
  go_wp2
  go_loopw [3, 4] (fun v i wr => ∃ k : Nat, k ≤ l.length ∧ i = .int .i64 k ∧ StrRow wr v (setOf (l.take k)) ∧ Below w.heap.size w wr) (fun _ i _ => l.length - (intOf i).toNat)
  case atStart => exact ⟨0, Nat.zero_le _, rfl, StrRow.nil _, Below.refl _ _⟩
  case round =>
    obtain ⟨k, hk, rfl, hrow, hB⟩ := hrel
    have HROW := Lib.hid hrow
    have HB := Lib.hid hB
    clear hrow
    by_cases h1 : k < l.length
    · have h1' : (k : Int) < (l.length : Int) := by omega
      have hx := HX.out
      rcases hx with hx | ⟨b, o, rfl, hx⟩
      · exfalso; rw [hx] at h1; simp at h1
      have hc1 := cell_below hB (str_cell hx h1)
      have HST := Lib.hid (setOf_step h1)
      have hlen : (setOf (l.take k)).length ≤ 1100000 := by
        have := setOf_len (l.take k); rw [List.length_take] at this; omega
      have CA := fun y => radd_walk u3 (setOf (l.take k)) y wr HROW.out hlen (setOf_up _)
      clear hx hlen hB
      generalize l[k] = y at *
      generalize setOf (l.take k) = S0 at *
      by_cases h32 : y.length = 32
      · have hq : ((y.length : Int) == 32) = true := by rw [beq_iff_eq]; omega
        have HS := Lib.hid (show setOf (l.take (k + 1)) = addL S0 y by rw [HST.out, if_pos (by simp [len32, h32])])
        have C := CA y
        clear h32 CA HST
        go_wp2_with fail
        refine C.mono ?_
        rintro e w2 ⟨v2, rfl, hr2, hb2⟩
        have HR2 := Lib.hid hr2
        clear hr2 C hc1
        go_wp2
        go_roundw
        case rel => exact ⟨k + 1, by omega, by go_num, by rw [HS.out]; exact HR2.out, below_chain HB.out hb2 HB.out.size⟩
        case measure => simp [intOf]; omega
      · have hq : ((y.length : Int) == 32) = false := by rw [beq_eq_false_iff_ne]; omega
        have HS := Lib.hid (show setOf (l.take (k + 1)) = S0 by rw [HST.out, if_neg (by simp [len32, h32])])
        clear h32 CA HST
        go_wp2
        go_roundw
        case rel => exact ⟨k + 1, by omega, by go_num, by rw [HS.out]; exact HROW.out, HB.out⟩
        case measure => simp [intOf]; omega
    · have h1' : ¬ (k : Int) < (l.length : Int) := by omega
      rw [List.take_of_length_le (by omega)] at HROW
      go_wp2
      go_ret
      exact ⟨_, rfl, HROW.out, HB.out⟩
end Go.Proofs.YtnnjgokaabaaoaaGreatDoor

namespace Go.Proofs.YtnnjgokaabaaoaaGreatDoor
open Go.RowKit

set_option maxHeartbeats 4000000 in
set_option maxRecDepth 100000 in
theorem rkids_walk (vp ve : Value) (n : Nod) (w : World) (hr : NodRow w n vp ve) (hcnt : n.parts.length + n.ents.length ≤ 1100000) :
    Calls Tryz.prog 23 #[NodV n vp ve] w fun e w' => ∃ v', e = .returned v' ∧ StrRow w' v' (kidsN n) ∧ Below w.heap.size w w' := by
  obtain ⟨i0, hi, hz0, hz1, hz2⟩ := info_parts infoStr
  obtain ⟨w1, hw1, HB1, HZ⟩ : ∃ w1, w1 = w.alloc (.cells #[.int .i64 n.kind, S n.data, vp, ve] 25) ∧ Hid (Below w.heap.size w w1) ∧ Hid (w1.heap[w.heap.size]? = some (.cells #[.int .i64 n.kind, S n.data, vp, ve] 25 (0, 0))) :=
    ⟨_, rfl, (Below.refl _ _).alloc (Nat.le_refl _) _, heap_alloc_new _ _⟩
  have HR := Lib.hid hr
  obtain ⟨va, vc, rfl⟩ := row_slice hr.parts
  obtain ⟨ua, uc, rfl⟩ := row_slice hr.ents
  obtain ⟨⟨z0, z1, z2, z3⟩, -, -⟩ := box4 HZ.out
  unfold kidsN
  clear hr
  go_enter Tryz.func23, Tryz.ntmps23
  go_upto_region 1 with fail
  rw [← hw1]
  clear hw1
  go_wp2
  go_loopw [3, 4] (fun v i wr => ∃ (k : Nat) (dn : List (List UInt8)), k ≤ n.parts.length ∧ i = .int .i64 k ∧ dn = (n.parts.take k).map (fun p : Prt => p.1) ∧ dn.length = k ∧ wr.ownsRow w1.heap.size 9 1 v dn.length (dn.map S) ∧ Below w1.heap.size w1 wr) (fun _ i _ => n.parts.length - (intOf i).toNat)
  case atStart => exact ⟨0, [], Nat.zero_le _, rfl, rfl, rfl, World.ownsRow_nil _ _ _ _, Below.refl _ _⟩
  case round =>
    obtain ⟨k, dn, hk, rfl, hdn, hdk, hown, hB⟩ := hrel
    have HDN := Lib.hid hdn
    have HDK := Lib.hid hdk
    have hdl : dn.length ≤ 1100000 := by omega
    clear hdn hdk
    have hsz := hB.size
    have hbb := below_chain HB1.out hB HB1.out.size
    have hz2 := (hB.block _ (heap_lt HZ.out)).trans HZ.out
    obtain ⟨⟨y0, y1, y2, y3⟩, -, -⟩ := box4 hz2
    clear hz2
    by_cases hlt : k < n.parts.length
    · have hlt' : (k : Int) < (n.parts.length : Int) := by omega
      obtain ⟨a0, c0, hv, -, -, hx⟩ := HR.out.parts
      obtain ⟨g1, g2⟩ : va = a0 ∧ vc = c0 := by cases hv; exact ⟨rfl, rfl⟩
      subst g1 g2
      clear hv
      rcases hx with hx | ⟨b, o, rfl, hx⟩
      · exfalso; rw [hx] at hlt; simp at hlt
      obtain ⟨hc1, hc2⟩ := prt_cells hx hlt
      replace hc1 := cell_below hbb hc1
      replace hc2 := cell_below hbb hc2
      have HTK := Lib.hid (show dn ++ [n.parts[k].1] = (n.parts.take (k + 1)).map (fun p : Prt => p.1) by rw [List.take_succ_eq_append_getElem hlt, List.map_append, HDN.out]; simp)
      clear hx hbb
      generalize n.parts[k] = y at *
      obtain ⟨key, sz⟩ := y
      simp only at hc1 hc2
      go_wp2_with (at_builtin; refine wpList_append_own _ rfl _ _ 35 rfl w1.heap.size 9 i0 (.string ⟨#[]⟩) 1 16 Tryz.underlying35 hi hz0 hz1 hz2 rfl (by decide) _ _ _ rfl (hown.alloc _) ⟨wr.heap.size, 0, none⟩ 1 1 [S key] rfl rfl (new_cell_at (by simp) _ _) (by intro u hu; simp at hu; subst hu; rfl) (by unfold maxLen; omega) (by omega) (by simp; omega) ?_)
      intro v' w2 hown' hgrow _
      have hB2 : Below w1.heap.size w1 w2 := (hB.alloc hsz _).grown hgrow (by simp; omega) (fun j hj => (hown.lt j hj).1)
      clear hgrow hown hB hc1 hc2
      go_wp2
      go_roundw
      case rel => exact ⟨k + 1, dn ++ [key], by omega, by go_num, HTK.out, by have := HDK.out; simp; omega, by rw [List.length_append, List.map_append]; exact hown', hB2⟩
      case measure => simp [intOf]; omega
    · have hlt' : ¬ (k : Int) < (n.parts.length : Int) := by omega
      obtain rfl : k = n.parts.length := by omega
      have HDN0 := Lib.hid (show dn = n.parts.map (fun p : Prt => p.1) by rw [HDN.out, List.take_of_length_le (Nat.le_refl _)])
      have HDK0 := HDK
      have HO0 := Lib.hid hown
      have HB0 := Lib.hid hB
      obtain ⟨dn0, rfl⟩ : ∃ dn0, dn0 = dn := ⟨_, rfl⟩
      clear hown hB hbb z0 z1 z2 z3 HDN HDK
      go_wp2
      go_loopw [3, 5] (fun v i wr => ∃ (k : Nat) (dn : List (List UInt8)), k ≤ n.ents.length ∧ i = .int .i64 k ∧ dn = n.parts.map (fun p : Prt => p.1) ++ (n.ents.take k).map (fun e : Ent => e.2.2.2) ∧ dn.length = n.parts.length + k ∧ wr.ownsRow w1.heap.size 9 1 v dn.length (dn.map S) ∧ Below w1.heap.size w1 wr) (fun _ i _ => n.ents.length - (intOf i).toNat)
      case atStart => exact ⟨0, dn0, Nat.zero_le _, rfl, by rw [HDN0.out]; simp, by rw [HDK0.out]; rfl, HO0.out, HB0.out⟩
      case round =>
        obtain ⟨k, dn, hk, rfl, hdn, hdk, hown, hB⟩ := hrel
        have HDN := Lib.hid hdn
        have HDK := Lib.hid hdk
        have hdl : dn.length ≤ 1100000 := by omega
        clear hdn hdk
        have hsz := hB.size
        have hbb := below_chain HB1.out hB HB1.out.size
        have hz2 := (hB.block _ (heap_lt HZ.out)).trans HZ.out
        obtain ⟨⟨y0, y1, y2, y3⟩, -, -⟩ := box4 hz2
        clear hz2
        by_cases hlt : k < n.ents.length
        · have hlt' : (k : Int) < (n.ents.length : Int) := by omega
          obtain ⟨a0, c0, hv, -, -, hx⟩ := HR.out.ents
          obtain ⟨g1, g2⟩ : ua = a0 ∧ uc = c0 := by cases hv; exact ⟨rfl, rfl⟩
          subst g1 g2
          clear hv
          rcases hx with hx | ⟨b, o, rfl, hx⟩
          · exfalso; rw [hx] at hlt; simp at hlt
          obtain ⟨hc1, hc2, hc3, hc4⟩ := ent_cells hx hlt
          replace hc1 := cell_below hbb hc1
          replace hc2 := cell_below hbb hc2
          replace hc3 := cell_below hbb hc3
          replace hc4 := cell_below hbb hc4
          have HTK := Lib.hid (show dn ++ [n.ents[k].2.2.2] = n.parts.map (fun p : Prt => p.1) ++ (n.ents.take (k + 1)).map (fun e : Ent => e.2.2.2) by rw [List.take_succ_eq_append_getElem hlt, List.map_append, HDN.out]; simp)
          clear hx hbb
          generalize n.ents[k] = y at *
          obtain ⟨nm, ek, ex, key⟩ := y
          simp only at hc1 hc2 hc3 hc4
          go_wp2_with (at_builtin; refine wpList_append_own _ rfl _ _ 35 rfl w1.heap.size 9 i0 (.string ⟨#[]⟩) 1 16 Tryz.underlying35 hi hz0 hz1 hz2 rfl (by decide) _ _ _ rfl (hown.alloc _) ⟨wr.heap.size, 0, none⟩ 1 1 [S key] rfl rfl (new_cell_at (by simp) _ _) (by intro u hu; simp at hu; subst hu; rfl) (by unfold maxLen; omega) (by omega) (by simp; omega) ?_)
          intro v' w2 hown' hgrow _
          have hB2 : Below w1.heap.size w1 w2 := (hB.alloc hsz _).grown hgrow (by simp; omega) (fun j hj => (hown.lt j hj).1)
          clear hgrow hown hB hc1 hc2 hc3 hc4
          go_wp2
          go_roundw
          case rel => exact ⟨k + 1, dn ++ [key], by omega, by go_num, HTK.out, by have := HDK.out; simp; omega, by rw [List.length_append, List.map_append]; exact hown', hB2⟩
          case measure => simp [intOf]; omega
        · have hlt' : ¬ (k : Int) < (n.ents.length : Int) := by omega
          obtain rfl : k = n.ents.length := by omega
          have HTL := Lib.hid (show dn = kidsL n by rw [HDN.out, List.take_of_length_le (Nat.le_refl _)]; rfl)
          have C := rof_walk _ dn wr (StrRow.of_owns hown) hdl
          rw [HTL.out] at C
          have HBB := Lib.hid hbb
          clear hown hB hbb
          go_wp2_with fail
          refine C.mono ?_
          rintro e w3 ⟨v3, rfl, hr3, hb3⟩
          have HR3 := Lib.hid hr3
          clear hr3 C
          go_wp2
          go_ret
          exact ⟨_, rfl, HR3.out, below_chain HBB.out hb3 HBB.out.size⟩
end Go.Proofs.YtnnjgokaabaaoaaGreatDoor

namespace Go.Proofs.YtnnjgokaabaaoaaGreatDoor
open Go.RowKit

set_option maxHeartbeats 2000000 in
set_option maxRecDepth 100000 in
theorem peqPrt_walk (v v2 : Value) (l m : List Prt) (w : World) (hr : PrtRow w v l) (hr2 : PrtRow w v2 m) (hcnt : l.length ≤ 1100000) :
    Calls Tryz.prog 42 #[v, v2] w fun e w' => e = .returned (.bool (decide (l = m))) ∧ Below w.heap.size w w' := by
  have HF := Lib.hid (fun (h : l ≠ m) => decide_eq_false h)
  have HG := Lib.hid (fun (h : l = m) => decide_eq_true h)
  generalize decide (l = m) = res at *
  obtain ⟨a, c, rfl, hc, hm, hx⟩ := hr
  obtain ⟨a2, c2, rfl, hc2, hm2, hx2⟩ := hr2
  have HX := Lib.hid hx
  have HX2 := Lib.hid hx2
  clear hx hx2
  by_cases g : l.length = m.length
  · have gg : ((l.length : Int) != (m.length : Int)) = false := by rw [bne_eq_false_iff_eq]; omega
    have HL := Lib.hid g
    have hle1 : l.length ≤ m.length := by omega
    have hle2 : m.length ≤ l.length := by omega
    clear g
    go_enter Tryz.func42, Tryz.ntmps42
    go_wp2
    go_loopw [13] (fun i wr => ∃ k : Nat, k ≤ l.length ∧ i = .int .i64 k ∧ l.take k = m.take k ∧ Below w.heap.size w wr) (fun i _ => l.length - (intOf i).toNat)
    case atStart => exact ⟨0, Nat.zero_le _, rfl, rfl, Below.refl _ _⟩
    case round =>
      obtain ⟨k, hk, rfl, ht, hB⟩ := hrel
      have HT := Lib.hid ht
      have HB := Lib.hid hB
      clear ht
      by_cases h1 : k < l.length
      · have h2 : k < m.length := by omega
        have h1' : (k : Int) < (l.length : Int) := by omega
        have h2' : (k : Int) < (m.length : Int) := by omega
        have hx := HX.out
        rcases hx with hx | ⟨b, o, rfl, hx⟩
        · exfalso; rw [hx] at h1; simp at h1
        have hy := HX2.out
        rcases hy with hy | ⟨b2, o2, rfl, hy⟩
        · exfalso; rw [hy] at h2; simp at h2
        obtain ⟨hx1, hx2⟩ := prt_cells hx h1
        obtain ⟨hy1, hy2⟩ := prt_cells hy h2
        have hc1 := cell_below hB hx1
        have hc2 := cell_below hB hx2
        have hd1 := cell_below hB hy1
        have hd2 := cell_below hB hy2
        have HSO := Lib.hid (fun h => take_snoc_eq h1 h2 HT.out h)
        have HDO := Lib.hid (fun h => HF.out (at_ne h1 h2 h))
        clear hx hy hx1 hx2 hy1 hy2 hB
        generalize l[k] = y at *
        generalize m[k] = z at *
        obtain ⟨p1, d1⟩ := y
        obtain ⟨p2, d2⟩ := z
        simp only at hc1 hc2 hd1 hd2
        by_cases hpq : ((p1, d1) : Prt) = (p2, d2)
        · have HSS := Lib.hid (HSO.out hpq)
          cases hpq
          go_wp2
          go_quiet (fail)
          go_wp2
          go_roundw
          case rel => exact ⟨k + 1, by omega, by go_num, HSS.out, belowN HB.out _⟩
          case measure => simp [intOf]; omega
        · have HR := Lib.hid (HDO.out hpq)
          have hcase := prt_ne hpq
          clear hpq
          rcases hcase with q1 | ⟨q1, q2⟩
          all_goals
            go_wp2
            go_quiet (fail)
            go_wp2
            go_ret
            exact ⟨by rw [HR.out]; rfl, belowN HB.out _⟩
      · have h1' : ¬ (k : Int) < (l.length : Int) := by omega
        have HR := Lib.hid (HG.out (by
          have e := HT.out
          rw [List.take_of_length_le (by omega), List.take_of_length_le (by omega)] at e
          exact e))
        go_wp2
        go_ret
        exact ⟨by rw [HR.out]; rfl, HB.out⟩
  · have gg : ((l.length : Int) != (m.length : Int)) = true := by rw [bne_iff_ne]; omega
    have HR := Lib.hid (HF.out (fun e => g (by rw [e])))
    clear g
    go_enter Tryz.func42, Tryz.ntmps42
    go_wp2
    go_ret
    exact ⟨by rw [HR.out]; rfl, Below.refl _ _⟩

set_option maxHeartbeats 2000000 in
set_option maxRecDepth 100000 in
theorem peqEnt_walk (v v2 : Value) (l m : List Ent) (w : World) (hr : EntRow w v l) (hr2 : EntRow w v2 m) (hcnt : l.length ≤ 1100000) :
    Calls Tryz.prog 43 #[v, v2] w fun e w' => e = .returned (.bool (decide (l = m))) ∧ Below w.heap.size w w' := by
  have HF := Lib.hid (fun (h : l ≠ m) => decide_eq_false h)
  have HG := Lib.hid (fun (h : l = m) => decide_eq_true h)
  generalize decide (l = m) = res at *
  obtain ⟨a, c, rfl, hc, hm, hx⟩ := hr
  obtain ⟨a2, c2, rfl, hc2, hm2, hx2⟩ := hr2
  have HX := Lib.hid hx
  have HX2 := Lib.hid hx2
  clear hx hx2
  by_cases g : l.length = m.length
  · have gg : ((l.length : Int) != (m.length : Int)) = false := by rw [bne_eq_false_iff_eq]; omega
    have HL := Lib.hid g
    have hle1 : l.length ≤ m.length := by omega
    have hle2 : m.length ≤ l.length := by omega
    clear g
    go_enter Tryz.func43, Tryz.ntmps43
    go_wp2
    go_loopw [13] (fun i wr => ∃ k : Nat, k ≤ l.length ∧ i = .int .i64 k ∧ l.take k = m.take k ∧ Below w.heap.size w wr) (fun i _ => l.length - (intOf i).toNat)
    case atStart => exact ⟨0, Nat.zero_le _, rfl, rfl, Below.refl _ _⟩
    case round =>
      obtain ⟨k, hk, rfl, ht, hB⟩ := hrel
      have HT := Lib.hid ht
      have HB := Lib.hid hB
      clear ht
      by_cases h1 : k < l.length
      · have h2 : k < m.length := by omega
        have h1' : (k : Int) < (l.length : Int) := by omega
        have h2' : (k : Int) < (m.length : Int) := by omega
        have hx := HX.out
        rcases hx with hx | ⟨b, o, rfl, hx⟩
        · exfalso; rw [hx] at h1; simp at h1
        have hy := HX2.out
        rcases hy with hy | ⟨b2, o2, rfl, hy⟩
        · exfalso; rw [hy] at h2; simp at h2
        obtain ⟨hx1, hx2, hx3, hx4⟩ := ent_cells hx h1
        obtain ⟨hy1, hy2, hy3, hy4⟩ := ent_cells hy h2
        have hc1 := cell_below hB hx1
        have hc2 := cell_below hB hx2
        have hc3 := cell_below hB hx3
        have hc4 := cell_below hB hx4
        have hd1 := cell_below hB hy1
        have hd2 := cell_below hB hy2
        have hd3 := cell_below hB hy3
        have hd4 := cell_below hB hy4
        have HSO := Lib.hid (fun h => take_snoc_eq h1 h2 HT.out h)
        have HDO := Lib.hid (fun h => HF.out (at_ne h1 h2 h))
        clear hx hy hx1 hx2 hx3 hx4 hy1 hy2 hy3 hy4 hB
        generalize l[k] = y at *
        generalize m[k] = z at *
        obtain ⟨p1, d1, e1, t1⟩ := y
        obtain ⟨p2, d2, e2, t2⟩ := z
        simp only at hc1 hc2 hc3 hc4 hd1 hd2 hd3 hd4
        by_cases hpq : ((p1, d1, e1, t1) : Ent) = (p2, d2, e2, t2)
        · have HSS := Lib.hid (HSO.out hpq)
          cases hpq
          go_wp2
          go_quiet (fail)
          go_wp2
          go_roundw
          case rel => exact ⟨k + 1, by omega, by go_num, HSS.out, belowN HB.out _⟩
          case measure => simp [intOf]; omega
        · have HR := Lib.hid (HDO.out hpq)
          have hcase := ent_ne hpq
          clear hpq
          rcases hcase with q1 | ⟨q1, q2⟩ | ⟨q1, q2, q3⟩ | ⟨q1, q2, q3, q4⟩
          all_goals
            go_wp2
            go_quiet (fail)
            go_wp2
            go_ret
            exact ⟨by rw [HR.out]; rfl, belowN HB.out _⟩
      · have h1' : ¬ (k : Int) < (l.length : Int) := by omega
        have HR := Lib.hid (HG.out (by
          have e := HT.out
          rw [List.take_of_length_le (by omega), List.take_of_length_le (by omega)] at e
          exact e))
        go_wp2
        go_ret
        exact ⟨by rw [HR.out]; rfl, HB.out⟩
  · have gg : ((l.length : Int) != (m.length : Int)) = true := by rw [bne_iff_ne]; omega
    have HR := Lib.hid (HF.out (fun e => g (by rw [e])))
    clear g
    go_enter Tryz.func43, Tryz.ntmps43
    go_wp2
    go_ret
    exact ⟨by rw [HR.out]; rfl, Below.refl _ _⟩

set_option maxHeartbeats 8000000 in
set_option maxRecDepth 100000 in
theorem psame11_walk (vp ve vp2 ve2 : Value) (n m : Nod) (w : World) (hr : NodRow w n vp ve) (hr2 : NodRow w m vp2 ve2) (hp : n.parts.length ≤ 1100000) (he : n.ents.length ≤ 1100000) :
    Calls Tryz.prog 19 #[NodV n vp ve, NodV m vp2 ve2] w fun e w' => e = .returned (.bool (sameN n m)) ∧ Below w.heap.size w w' := by
  obtain ⟨w1, hw1, HB1, HZ1, HY1⟩ : ∃ w1, w1 = (w.alloc (.cells #[.int .i64 n.kind, S n.data, vp, ve] 25)).alloc (.cells #[.int .i64 m.kind, S m.data, vp2, ve2] 25) ∧ Hid (Below w.heap.size w w1) ∧ Hid (w1.heap[w.heap.size]? = some (.cells #[.int .i64 n.kind, S n.data, vp, ve] 25 (0, 0))) ∧ Hid (w1.heap[w.heap.size + 1]? = some (.cells #[.int .i64 m.kind, S m.data, vp2, ve2] 25 (0, 0))) :=
    ⟨_, rfl, ((Below.refl _ _).alloc (Nat.le_refl _) _).alloc (by simp) _, heap_alloc2_old _ _ _, heap_alloc2_new _ _ _⟩
  have CP := peqPrt_walk vp vp2 n.parts m.parts w1 (hr.parts.below HB1.out) (hr2.parts.below HB1.out) hp
  have HCE := Lib.hid (fun W h1 h2 => peqEnt_walk ve ve2 n.ents m.ents W h1 h2 he)
  have HR := Lib.hid hr
  have HR2 := Lib.hid hr2
  have HF := Lib.hid (fun (h : n ≠ m) => sameN_no h)
  have HG := Lib.hid (fun (h : n = m) => sameN_yes h)
  obtain ⟨res, hres⟩ : ∃ res, sameN n m = res := ⟨_, rfl⟩
  rw [hres] at HF HG ⊢
  obtain ⟨⟨z0, z1, z2, z3⟩, -, -⟩ := box4 HZ1.out
  obtain ⟨⟨y0, y1, y2, y3⟩, -, -⟩ := box4 HY1.out
  clear hr hr2 hp he hres
  by_cases h0 : n.kind = m.kind
  · have q0 : (n.kind == m.kind) = true := by rw [beq_iff_eq]; exact h0
    have H0 := Lib.hid h0
    clear h0
    by_cases h1 : n.data = m.data
    · have q1 : (n.data == m.data) = true := by rw [beq_iff_eq]; exact h1
      have H1 := Lib.hid h1
      clear h1
      by_cases h2 : n.parts = m.parts
      · rw [decide_eq_true h2] at CP
        have H2 := Lib.hid h2
        clear h2
        go_enter Tryz.func19, Tryz.ntmps19
        go_upto_region 1 with fail
        rw [← hw1]
        clear hw1
        go_wp2_with fail
        refine CP.mono ?_
        rintro e w2 ⟨rfl, hb2⟩
        have HB2 := Lib.hid (below_chain HB1.out hb2 HB1.out.size)
        have CE := HCE.out w2 (HR.out.ents.below HB2.out) (HR2.out.ents.below HB2.out)
        clear z0 z1 z2 z3 y0 y1 y2 y3 CP HCE
        obtain ⟨⟨z0, z1, z2, z3⟩, -, -⟩ := box4 ((hb2.block _ (heap_lt HZ1.out)).trans HZ1.out)
        obtain ⟨⟨y0, y1, y2, y3⟩, -, -⟩ := box4 ((hb2.block _ (heap_lt HY1.out)).trans HY1.out)
        clear hb2
        by_cases h3 : n.ents = m.ents
        · rw [decide_eq_true h3] at CE
          have HS := Lib.hid (HG.out (by
            obtain ⟨a1, a2, a3, a4⟩ := n
            obtain ⟨b1, b2, b3, b4⟩ := m
            have e0 := H0.out; have e1 := H1.out; have e2 := H2.out
            simp only at e0 e1 e2 h3
            rw [e0, e1, e2, h3]))
          clear h3
          go_wp2_with fail
          refine CE.mono ?_
          rintro e w3 ⟨rfl, hb3⟩
          have HB3 := Lib.hid (below_chain HB2.out hb3 HB2.out.size)
          clear hb3
          go_wp2
          go_ret
          exact ⟨by rw [HS.out]; rfl, HB3.out⟩
        · rw [decide_eq_false h3] at CE
          have HS := Lib.hid (HF.out (fun h => h3 (by rw [h])))
          clear h3
          go_wp2_with fail
          refine CE.mono ?_
          rintro e w3 ⟨rfl, hb3⟩
          have HB3 := Lib.hid (below_chain HB2.out hb3 HB2.out.size)
          clear hb3
          go_wp2
          go_ret
          exact ⟨by rw [HS.out]; rfl, HB3.out⟩
      · rw [decide_eq_false h2] at CP
        have HS := Lib.hid (HF.out (fun h => h2 (by rw [h])))
        clear h2
        go_enter Tryz.func19, Tryz.ntmps19
        go_upto_region 1 with fail
        rw [← hw1]
        clear hw1
        go_wp2_with fail
        refine CP.mono ?_
        rintro e w2 ⟨rfl, hb2⟩
        have HB2 := Lib.hid (below_chain HB1.out hb2 HB1.out.size)
        clear hb2
        go_wp2
        go_ret
        exact ⟨by rw [HS.out]; rfl, HB2.out⟩
    · have q1 : (n.data == m.data) = false := by rw [beq_eq_false_iff_ne]; exact h1
      have HS := Lib.hid (HF.out (fun h => h1 (by rw [h])))
      clear h1
      go_enter Tryz.func19, Tryz.ntmps19
      go_upto_region 1 with fail
      rw [← hw1]
      clear hw1
      go_wp2
      go_ret
      exact ⟨by rw [HS.out]; rfl, HB1.out⟩
  · have q0 : (n.kind == m.kind) = false := by rw [beq_eq_false_iff_ne]; exact h0
    have HS := Lib.hid (HF.out (fun h => h0 (by rw [h])))
    clear h0
    go_enter Tryz.func19, Tryz.ntmps19
    go_upto_region 1 with fail
    rw [← hw1]
    clear hw1
    go_wp2
    go_ret
    exact ⟨by rw [HS.out]; rfl, HB1.out⟩
end Go.Proofs.YtnnjgokaabaaoaaGreatDoor

namespace Go.Proofs.YtnnjgokaabaaoaaGreatDoor
open Go.RowKit

set_option maxHeartbeats 8000000 in
set_option maxRecDepth 100000 in
theorem rkey11_walk (vp ve : Value) (n : Nod) (w : World) (hr : NodRow w n vp ve) (hd : n.data.length ≤ 1100000) (hp : n.parts.length ≤ 1100000) (he : n.ents.length ≤ 1100000) (hnl : ∀ e ∈ n.ents, e.1.length ≤ 1100000) :
    Calls Tryz.prog 21 #[NodV n vp ve] w fun e w' => e = .returned (S (keyN n)) ∧ Below w.heap.size w w' := by
  obtain ⟨w1, hw1, hB1, hz⟩ : ∃ w1, w1 = w.alloc (.cells #[.int .i64 n.kind, S n.data, vp, ve] 25) ∧ Below w.heap.size w w1 ∧ w1.heap[w.heap.size]? = some (.cells #[.int .i64 n.kind, S n.data, vp, ve] 25 (0, 0)) :=
    ⟨_, rfl, (Below.refl _ _).alloc (Nat.le_refl _) _, heap_alloc_new _ _⟩
  have hr1 := hr.below hB1
  have CF := rfit11_walk vp ve n w1 hr1 hd hp he hnl
  have CW := fun W h => rwrite11_walk vp ve n W h hd hp he hnl
  have hwl := writeN_len (n := n)
  have HR1 := Lib.hid hr1
  have HK := Lib.hid (show keyN n = if fitN n = true then shaF (writeN n) else [] from rfl)
  obtain ⟨⟨z0, z1, z2, z3⟩, -, -⟩ := box4 hz
  generalize keyN n = kn at *
  generalize writeN n = wn at *
  clear hr hr1
  go_enter Tryz.func21, Tryz.ntmps21
  go_upto_region 1 with fail
  rw [← hw1]
  clear hw1
  go_wp2_with fail
  refine CF.mono ?_
  rintro e w2 ⟨rfl, hb2⟩
  have hz2 := (hb2.block _ (heap_lt hz)).trans hz
  have hB2 := below_chain hB1 hb2 hB1.size
  have CW2 := CW w2 (HR1.out.below hb2)
  obtain ⟨⟨y0, y1, y2, y3⟩, -, -⟩ := box4 hz2
  clear CF CW hz hB1 HR1 hb2 z0 z1 z2 z3 hz2
  cases hfb : fitN n with
  | false =>
    have hk := HK.out
    rw [hfb, if_neg (by simp)] at hk
    have HK2 := Lib.hid hk
    clear hk hfb HK
    go_wp2
    go_ret
    exact ⟨by rw [HK2.out]; rfl, hB2⟩
  | true =>
    have hk := HK.out
    rw [hfb, if_pos rfl] at hk
    have HK2 := Lib.hid hk
    have CS := fun W => rsha_walk wn W (by omega)
    clear hk hfb HK
    go_wp2_with fail
    refine CW2.mono ?_
    rintro e w3 ⟨rfl, hb3⟩
    have HB3 := Lib.hid (below_chain hB2 hb3 hB2.size)
    clear CW2 hb3 hB2
    go_wp2_with fail
    refine (CS w3).mono ?_
    rintro e w4 ⟨rfl, hb4⟩
    have HB4 := Lib.hid (below_chain HB3.out hb4 HB3.out.size)
    clear hb4
    go_wp2
    go_ret
    exact ⟨by rw [HK2.out]; rfl, HB4.out⟩
end Go.Proofs.YtnnjgokaabaaoaaGreatDoor

namespace Go.Proofs.YtnnjgokaabaaoaaGreatDoor
open Go.RowKit

/-- Each of the first m refers only to earlier ones, and leads on to number m; each behind m waits for m or one behind it. -/
def aheadOk2 (md : Region.Mode) (ops : Array Oper) (m : Nat) : Bool :=
  decide (m < ops.size) &&
  ((List.range m).all (fun i => match ops[i]? with
    | some o => o.after.toList.all (fun e => !Region.binds md e || decide (e.on < i)) && (decide (i < nxtOf md ops i) && (decide (nxtOf md ops i ≤ m) &&
        (match ops[nxtOf md ops i]? with | some o' => edgeOn md o' i | none => false)))
    | none => false) &&
  (List.range ops.size).all (fun j => decide (j ≤ m) || (match ops[j]? with | some o => o.after.toList.any (fun e => Region.binds md e && (decide (m ≤ e.on) && decide (e.on < ops.size))) | none => true)))

section
variable {md : Region.Mode} {ops : Array Oper} {m : Nat}

theorem ahead_of_ok2 (hok : aheadOk2 md ops m = true) : ∀ (k : Nat) (listed : Array Bool), AheadI md ops m k listed → ahead md ops m k listed = true := by
  unfold aheadOk2 at hok
  simp only [Bool.and_eq_true, decide_eq_true_eq, List.all_eq_true, List.mem_range, Bool.or_eq_true] at hok
  obtain ⟨hm, h1, h2⟩ := hok
  have hget : ∀ i, i < m → ∃ o, ops[i]? = some o ∧ (∀ e ∈ o.after, Region.binds md e = true → e.on < i) ∧ i < nxtOf md ops i ∧ nxtOf md ops i ≤ m ∧ ∃ o', ops[nxtOf md ops i]? = some o' ∧ edgeOn md o' i = true := by
    intro i hi
    have h3 := h1 i hi
    cases ho : ops[i]? with
    | none => rw [ho] at h3; cases h3
    | some o =>
      rw [ho] at h3
      simp only [Bool.and_eq_true, decide_eq_true_eq, List.all_eq_true, Bool.or_eq_true, Bool.not_eq_true'] at h3
      obtain ⟨h4, h5, h6, h7⟩ := h3
      refine ⟨o, rfl, fun e he hb => ?_, h5, h6, ?_⟩
      · rcases h4 e (by simpa using he) with h | h
        · rw [hb] at h; cases h
        · exact h
      · cases ho' : ops[nxtOf md ops i]? with
        | none => rw [ho'] at h7; cases h7
        | some o' => rw [ho'] at h7; exact ⟨o', rfl, h7⟩
  intro k
  induction k with
  | zero =>
    intro listed hI
    simp only [ahead, List.all_eq_true, List.mem_range]
    intro i hi
    have h3 := hI.cnt
    rw [List.countP_eq_zero] at h3
    have h4 := h3 i (List.mem_range.2 hi)
    simpa using h4
  | succ k ih =>
    intro listed hI
    -- some of the first m is not listed
    have hex : ∃ p, p < m ∧ listed.getD p true = false := by
      have h3 : 0 < (List.range m).countP (fun i => !listed.getD i true) := by rw [hI.cnt]; omega
      obtain ⟨p, hp, h4⟩ := List.countP_pos_iff.1 h3
      exact ⟨p, List.mem_range.1 hp, by simpa using h4⟩
    -- whoever is ready is one of the first m
    have hlow : ∀ i ∈ Region.ready md ops listed, i < m := by
      intro j hj
      obtain ⟨hju, o, hoj, hall⟩ := mem_ready.1 hj
      rcases Nat.lt_or_ge j m with h | hge
      · exact h
      exfalso
      have hjs : j < ops.size := (Array.getElem?_eq_some_iff.1 hoj).1
      rcases Nat.lt_or_ge m j with hgt | hle
      · have h3 := h2 j hjs
        rcases h3 with h3 | h3
        · omega
        · rw [hoj] at h3
          obtain ⟨e, he, h5⟩ := List.any_eq_true.1 h3
          simp only [Bool.and_eq_true, decide_eq_true_eq] at h5
          obtain ⟨hb, hon1, hon2⟩ := h5
          have h4 := hall e (by simpa using he) hb
          rw [getD_in (by rw [hI.size]; exact hon2) false true, hI.hi e.on hon1 hon2] at h4
          cases h4
      · obtain rfl : j = m := by omega
        -- the largest that is not listed
        have hdown : ∀ d, ∀ p, j - p ≤ d → p < j → listed.getD p true = true := by
          intro d
          induction d with
          | zero => intro p h3 h4; omega
          | succ d ihd =>
            intro p _ h4
            obtain ⟨o1, ho1, _, hn1, hn2, o2, ho2, hed⟩ := hget p h4
            obtain ⟨e, he, hb, hon⟩ := edgeOn_iff hed
            rcases Nat.lt_or_ge (nxtOf md ops p) j with h5 | h5
            · have h6 := ihd (nxtOf md ops p) (by omega) h5
              have h7 := hI.dc _ h5 h6 o2 ho2 e he hb
              rwa [hon] at h7
            · have h6 : nxtOf md ops p = j := by omega
              rw [h6, hoj] at ho2
              cases ho2
              have h7 := hall e he hb
              rw [hon] at h7
              rwa [getD_in (by rw [hI.size]; omega) true false]
        obtain ⟨p, hp, hpu⟩ := hex
        rw [hdown j p (by omega) hp] at hpu
        cases hpu
    -- the least that is not listed is ready
    have hne : Region.ready md ops listed ≠ [] := by
      obtain ⟨p, hp, hpu⟩ := hex
      have hmin : ∃ p, p < m ∧ listed.getD p true = false ∧ ∀ q, q < p → listed.getD q true = true := by
        clear hlow
        induction p using Nat.strongRecOn with
        | _ p ihp =>
          by_cases h3 : ∀ q, q < p → listed.getD q true = true
          · exact ⟨p, hp, hpu, h3⟩
          · obtain ⟨q, h4⟩ := Classical.not_forall.1 h3
            obtain ⟨h5, h6⟩ := Classical.not_imp.1 h4
            exact ihp q h5 (by omega) (by simpa using h6)
      obtain ⟨p, hp, hpu, hq⟩ := hmin
      obtain ⟨o, ho, hb, _⟩ := hget p hp
      refine List.ne_nil_of_mem (a := p) (mem_ready.2 ⟨hpu, o, ho, fun e he hbe => ?_⟩)
      have h3 := hb e he hbe
      rw [getD_in (by rw [hI.size]; omega) false true]
      exact hq _ h3
    simp only [ahead, Bool.and_eq_true, List.all_eq_true, decide_eq_true_eq]
    refine ⟨by cases hr : Region.ready md ops listed with | nil => exact absurd hr hne | cons a t => rfl, fun i hi => ⟨hlow i hi, ih _ ?_⟩⟩
    have him := hlow i hi
    obtain ⟨hiu, o, hoi, hall⟩ := mem_ready.1 hi
    have his : i < listed.size := by rw [hI.size]; omega
    have hself : ∀ x, (listed.setIfInBounds i true).getD i x = true := fun x => by simp [Array.getD, his]
    refine ⟨by simp [hI.size], fun j hj hjs => by rw [getD_set_ne true (by omega)]; exact hI.hi j hj hjs, ?_, ?_⟩
    · intro j hj hjl o2 ho2 e he hb
      by_cases hji : j = i
      · subst hji
        rw [hoi] at ho2
        cases ho2
        by_cases h3 : e.on = j
        · rw [h3]; exact hself true
        · have h4 := hall e he hb
          rw [getD_set_ne true (Ne.symm h3)]
          by_cases h5 : e.on < listed.size
          · rwa [getD_in h5 true false]
          · rw [getD_out h5]
      · rw [getD_set_ne true (Ne.symm hji)] at hjl
        have h4 := hI.dc j hj hjl o2 ho2 e he hb
        by_cases h3 : e.on = i
        · rw [h3]; exact hself true
        · rw [getD_set_ne true (Ne.symm h3)]; exact h4
    · have h3 := count_flip (p := fun j => !listed.getD j true) (q := fun j => !(listed.setIfInBounds i true).getD j true) (i := i) (by rw [hiu]; rfl) (by rw [hself]; rfl) (fun j hj => by rw [getD_set_ne true (Ne.symm hj)]) m
      rw [hI.cnt, if_pos him] at h3
      omega

theorem ahead_start2 (hok : aheadOk2 md ops m = true) {n : Nat} (hn : n = ops.size) : ahead md ops m m (Array.replicate n false) = true := by
  subst hn
  refine ahead_of_ok2 hok m _ ⟨by simp, fun j _ hj => by simp [Array.getD, hj], fun i hi h => ?_, ?_⟩
  · have hm : m < ops.size := by
      unfold aheadOk2 at hok
      simp only [Bool.and_eq_true, decide_eq_true_eq] at hok
      exact hok.1
    rw [show (Array.replicate ops.size false).getD i true = false by simp [Array.getD]; omega] at h
    cases h
  · have hm : m < ops.size := by
      unfold aheadOk2 at hok
      simp only [Bool.and_eq_true, decide_eq_true_eq] at hok
      exact hok.1
    have : (List.range m).countP (fun i => !(Array.replicate ops.size false).getD i true) = (List.range m).length := by
      rw [List.countP_eq_length]
      intro i hi
      have := List.mem_range.1 hi
      rw [show (Array.replicate ops.size false).getD i true = false by simp [Array.getD]; omega]; rfl
    rw [this, List.length_range]
end
section
variable {P : Program}
theorem wp_tail_quick2 {id : Nat} {Q : Exit → Act → World → Prop} {a : Act} {w : World} {l : List Oper} (m f : Nat) (hl : l.length = m + f) (hm : P.follows .mixedOrders = true) (hs : Region.noSelect l.toArray = true)
    (hB : lexPre .any l.toArray m 0 (Array.replicate (m + f) false) = true) (hA : aheadOk2 .any l.toArray m = true)
    (h : wpQuiet P l.toArray (fun w' => ∃ p : LaterOf w, w' = p.world) (fun a' => ∀ w', (∃ p : LaterOf w, w' = p.world) → wpAny P .any l.toArray Q f (listedTo m 0 (Array.replicate (m + f) false)) a' w') (l.take m) a) : (Code.region id l.toArray true).wp P Q a w :=
  wp_tail_later m f hl hm hs hB (ahead_start2 hA (by rw [List.size_toArray, hl])) h
end
end Go.Proofs.YtnnjgokaabaaoaaGreatDoor
