/- keys.Of: the set of those keys that are keys. node.Kids: the set of the keys that a node names. count's kids: what objects name. -/
import Derived.Test.YtaompdnnkfmjhaaGreatDoorJKSet
import Derived.Test.YtaompdnnkfmjhaaGreatDoorJAs11
import Derived.Test.YtaompdnnkfmjhaaGreatDoorShelf
import Derived.Sort.OwnSorted
import Derived.Sort.Grow
import Derived.Lib.OwnBridge
import Derived.Test.YtaompdnnkfmjhaaGreatDoorJCList
import Derived.Test.YtaompdnnkfmjhaaGreatDoorJRowG
import Derived.Test.YtaompdnnkfmjhaaGreatDoorJNodePlain
namespace Go.Proofs.YtaompdnnkfmjhaaGreatDoor
open Go.RowKit

theorem kclone_walk (v : Value) (l : List (List UInt8)) (w : World) (hr : StrRow w v l) (hcnt : l.length ≤ 1100000) :
    Calls Tryz.prog 75 #[v] w fun e w' => ∃ v', e = .returned v' ∧ w'.ownsRow w.heap.size 9 1 v' l.length (l.map S) ∧ Below w.heap.size w w' := by
  obtain ⟨a, c, rfl, hc, hm, hx⟩ := hr
  rcases hx with rfl | ⟨b, o, rfl, hx⟩
  · cases a with
    | none => exact (Tryz.slices_Clone_string_nil _ _ w).mono fun e w' ⟨h1, h2⟩ => ⟨_, h1, by rw [h2]; exact World.ownsRow_nil _ _ _ _, by rw [h2]; exact Below.refl _ _⟩
    | some a => exact (Tryz.slices_Clone_string_zero a _ w).mono fun e w' ⟨v', h1, h2, _, h3⟩ => ⟨v', h1, h2, h3⟩
  · refine (Tryz.slices_Clone_string b o l.length c (l.map fun x => ⟨x.toArray⟩) w (by simp) (by omega) (fun j hj => ?_)).mono fun e w' ⟨v', h1, h2, _, h3⟩ => ⟨v', h1, ?_, h3⟩
    · have hj2 : j < l.length := by simpa using hj
      have h := hx j l[j] (by simp [hj2])
      rw [h]
      simp [List.getD, hj2, S]
    · have e : (List.take l.length (l.map fun x => (⟨x.toArray⟩ : ByteArray))).map Value.string = l.map S := by
        rw [List.take_of_length_le (by simp), List.map_map]; rfl
      rwa [e] at h2

/-- What stands behind the sort and the compaction: the set, in the same cells. -/
theorem ksort_walk (B : Nat) (v : Value) (l : List (List UInt8)) (w : World) (hown : w.ownsRow B 9 1 v l.length (l.map S)) (hB : B ≤ w.heap.size) (hcnt : l.length ≤ 1100000) :
    Calls Tryz.prog 77 #[v] w fun e w' => e = .returned (.tuple #[]) ∧ w'.ownsRow B 9 1 v l.length ((l.mergeSort fun x y => decide (x ≤ y)).map S) ∧ Below B w w' := by
  rcases hown.2 with ⟨rfl, h2⟩ | ⟨g, cap, cur, rfl, hbg, hg, hnc, hcm, hcs, htk⟩
  · have hl : l = [] := by
      cases l with
      | nil => rfl
      | cons => simp at h2
    subst hl
    exact (Tryz.slices_Sort_string_none none 0 w).mono fun e w' ⟨h1, h3⟩ => ⟨h1, by rw [h3]; simpa using hown, by rw [h3]; exact Below.refl _ _⟩
  · have hgw : g < w.heap.size := heap_lt hg
    have hH : Go.Sort.Holds encStr w g 0 l.toArray := holds_of_block hg (by rw [Nat.mul_one] at htk; exact htk)
    refine (Tryz.slices_Sort_string g 0 cap l w hH hgw (by omega)).mono fun e w' ⟨h1, n, os, h2⟩ => ⟨h1, ?_, ?_⟩
    · rw [h2]
      exact ownsRow_sorted (List.length_mergeSort l) hbg hg hnc hcm hcs
    · rw [h2]
      exact (Below.refl B w).grown (grownBy_sorted _) hB (fun j hj => by cases hj; exact hbg)
theorem kcompact_walk (B : Nat) (v : Value) (l : List (List UInt8)) (w : World) (hown : w.ownsRow B 9 1 v l.length (l.map S)) (hcnt : l.length ≤ 1100000) :
    Calls Tryz.prog 78 #[v] w fun e w' => ∃ v', e = .returned v' ∧ w'.ownsRow B 9 1 v' (Lib.compact l).length ((Lib.compact l).map S) ∧ Below B w w' := by
  rcases hown.2 with ⟨rfl, h2⟩ | ⟨g, cap, cur, rfl, hbg, hg, hnc, hcm, hcs, htk⟩
  · have hl : l = [] := by
      cases l with
      | nil => rfl
      | cons => simp at h2
    subst hl
    exact (Tryz.slices_Compact_string_empty none 0 w).mono fun e w' ⟨h1, h3⟩ => ⟨_, h1, by rw [h3]; exact World.ownsRow_nil _ _ _ _, by rw [h3]; exact Below.refl _ _⟩
  · have hH : Go.Sort.Holds encStr w g 0 l.toArray := holds_of_block hg (by rw [Nat.mul_one] at htk; exact htk)
    have hle := Lib.compact_length_le l
    refine (Tryz.slices_Compact_string g 0 cap l w hH (by omega) hnc).mono fun e w' ⟨h1, q, h2⟩ => ⟨_, h1, ?_, ?_⟩
    · rw [h2]
      have h3 := Lib.ownsRow_putRow (q := q) (k := (Lib.compact l).length) (ys := Lib.compact l ++ List.replicate (l.length - (Lib.compact l).length) []) hown (by simp; omega) (by omega)
      rw [List.take_left] at h3
      exact h3
    · rw [h2]
      exact Lib.below_putRow (Below.refl B w) hbg

theorem kof1_walk (x : List UInt8) (w : World) : Calls Tryz.prog 76 #[S x] w fun e w' => e = .returned (.bool (!len32 x)) ∧ Below w.heap.size w w' := by
  by_cases h : x.length = 32
  · have h1 : ((x.length : Int) != 32) = false := by rw [bne_eq_false_iff_eq]; omega
    have h2 : Hid ((!len32 x) = false) := Lib.hid (by simp [len32, h])
    clear h
    go_enter Tryz.func76, Tryz.ntmps76
    go_wp2
    go_ret
    exact ⟨by rw [h2.out]; rfl, Below.refl _ _⟩
  · have h1 : ((x.length : Int) != 32) = true := by rw [bne_iff_ne]; omega
    have h2 : Hid ((!len32 x) = true) := Lib.hid (by simp [len32, h])
    clear h
    go_enter Tryz.func76, Tryz.ntmps76
    go_wp2
    go_ret
    exact ⟨by rw [h2.out]; rfl, Below.refl _ _⟩

set_option maxHeartbeats 1000000 in
/-- THE WALK. -/
theorem kof2_walk (v : Value) (l : List (List UInt8)) (w : World) (hr : StrRow w v l) (hcnt : l.length ≤ 1100000) :
    Calls Tryz.prog 52 #[v] w fun e w' => ∃ v', e = .returned v' ∧ w'.ownsRow w.heap.size 9 1 v' (setOf l).length ((setOf l).map S) ∧ Below w.heap.size w w' := by
  have C1 := kclone_walk v l w hr hcnt
  have HCNT := Lib.hid hcnt
  have HF := Lib.hid (show l.filter (fun x => !(!len32 x)) = l.filter len32 from by simp)
  have HFL := Lib.hid (Nat.le_trans (List.length_filter_le len32 l) hcnt)
  have HSET := Lib.hid (compact_set l)
  have HSL := Lib.hid (show ((l.filter len32).mergeSort fun x y => decide (x ≤ y)).length = (l.filter len32).length from List.length_mergeSort _)
  clear hr hcnt
  go_enter Tryz.func52, Tryz.ntmps52
  go_wp2_with fail
  refine C1.mono ?_
  rintro e w1 ⟨v1, rfl, ho1, hb1⟩
  have C2 := delStr_walk 76 #[] (fun x => !len32 x) w.heap.size v1 l w1 ho1 HCNT.out hb1.size (enters_of Tryz.func76 (by kernel_rfl) rfl) (StrRow.of_owns ho1) (fun x w' _ => kof1_walk x w')
  rw [HF.out] at C2
  clear C1 ho1
  go_wp2_with fail
  refine C2.mono ?_
  rintro e w2 ⟨v2, rfl, ho2, hb2⟩
  have hB2 := hb1.trans hb2
  have C3 := ksort_walk w.heap.size v2 (l.filter len32) w2 ho2 hB2.size HFL.out
  clear C2 ho2 hb1 hb2
  go_wp2_with fail
  refine C3.mono ?_
  rintro e w3 ⟨rfl, ho3, hb3⟩
  have hB3 := hB2.trans hb3
  have C4 := kcompact_walk w.heap.size v2 ((l.filter len32).mergeSort fun x y => decide (x ≤ y)) w3 (by rw [HSL.out]; exact ho3) (by rw [HSL.out]; exact HFL.out)
  rw [HSET.out] at C4
  clear C3 ho3 hB2 hb3
  go_wp2_with fail
  refine C4.mono ?_
  rintro e w4 ⟨v4, rfl, ho4, hb4⟩
  have HR := Lib.hid ho4
  have hB4 := hB3.trans hb4
  clear ho4 hb4 C4
  go_wp2
  go_ret
  exact ⟨_, rfl, HR.out, hB4⟩
theorem kof_walk (v : Value) (l : List (List UInt8)) (w : World) (hr : StrRow w v l) (hcnt : l.length ≤ 1100000) :
    Calls Tryz.prog 52 #[v] w fun e w' => ∃ v', e = .returned v' ∧ StrRow w' v' (setOf l) ∧ Below w.heap.size w w' := by
  refine (kof2_walk v l w hr hcnt).mono ?_
  rintro e w' ⟨v', rfl, h, hb⟩
  exact ⟨v', rfl, StrRow.of_owns h, hb⟩
end Go.Proofs.YtaompdnnkfmjhaaGreatDoor

namespace Go.Proofs.YtaompdnnkfmjhaaGreatDoor
open Go.RowKit

set_option maxHeartbeats 4000000 in
set_option maxRecDepth 100000 in
theorem pkids2_walk (vp ve : Value) (n : Nod) (w : World) (hr : NodRow w n vp ve) (hcnt : n.parts.length + n.ents.length ≤ 1100000) :
    Calls Tryz.prog 57 #[NodV n vp ve] w fun e w' => ∃ v', e = .returned v' ∧ w'.ownsRow w.heap.size 9 1 v' (kidsN n).length ((kidsN n).map S) ∧ Below w.heap.size w w' := by
  obtain ⟨i0, hi, hz0, hz1, hz2⟩ := info_parts infoStr
  obtain ⟨w1, hw1, HB1, HZ⟩ : ∃ w1, w1 = w.alloc (.cells #[.int .i64 n.kind, S n.data, vp, ve] 36) ∧ Hid (Below w.heap.size w w1) ∧ Hid (w1.heap[w.heap.size]? = some (.cells #[.int .i64 n.kind, S n.data, vp, ve] 36 (0, 0))) :=
    ⟨_, rfl, (Below.refl _ _).alloc (Nat.le_refl _) _, heap_alloc_new _ _⟩
  have HR := Lib.hid hr
  obtain ⟨va, vc, rfl⟩ := row_slice hr.parts
  obtain ⟨ua, uc, rfl⟩ := row_slice hr.ents
  obtain ⟨⟨z0, z1, z2, z3⟩, -, -⟩ := box4 HZ.out
  unfold kidsN
  clear hr
  go_enter Tryz.func57, Tryz.ntmps57
  go_upto_region 1 with fail
  rw [← hw1]
  clear hw1
  go_wp2
  go_loopw [3, 11] (fun v i wr => ∃ (k : Nat) (dn : List (List UInt8)), k ≤ n.parts.length ∧ i = .int .i64 k ∧ dn = (n.parts.take k).map (fun p : Prt => p.1) ∧ dn.length = k ∧ wr.ownsRow w1.heap.size 9 1 v dn.length (dn.map S) ∧ Below w1.heap.size w1 wr) (fun _ i _ => n.parts.length - (intOf i).toNat)
  case atStart => exact ⟨0, [], Nat.zero_le _, rfl, rfl, rfl, World.ownsRow_nil _ _ _ _, Below.refl _ _⟩
  case round =>
    obtain ⟨k, dn, hk, rfl, hdn, hdk, hown, hB⟩ := hrel
    have HDN := Lib.hid hdn
    have HDK := Lib.hid hdk
    have hdl : dn.length ≤ 1100000 := by omega
    clear hdn hdk
    have hsz := hB.size
    have hbb := below_chain HB1.out hB HB1.out.size
    by_cases hlt : k < n.parts.length
    · have hlt' : (k : Int) < (n.parts.length : Int) := by omega
      obtain ⟨a0, c0, hv, -, -, hx⟩ := HR.out.parts
      obtain ⟨g1, g2⟩ : va = a0 ∧ vc = c0 := by cases hv; exact ⟨rfl, rfl⟩
      subst g1 g2
      clear hv
      rcases hx with hx | ⟨b, o, rfl, hx⟩
      · exfalso; rw [hx] at hlt; simp at hlt
      obtain ⟨hc1, hc2⟩ := prt_cells hx hlt
      replace hc1 := cell_below hbb hc1
      replace hc2 := cell_below hbb hc2
      have HTK := Lib.hid (show dn ++ [n.parts[k].1] = (n.parts.take (k + 1)).map (fun p : Prt => p.1) by rw [List.take_succ_eq_append_getElem hlt, List.map_append, HDN.out]; simp)
      clear hx hbb
      generalize n.parts[k] = y at *
      obtain ⟨key, sz⟩ := y
      simp only at hc1 hc2
      go_wp2_with (at_builtin; refine wpList_append_own _ rfl _ _ 23 rfl w1.heap.size 9 i0 (.string ⟨#[]⟩) 1 16 Tryz.underlying23 hi hz0 hz1 hz2 rfl (by decide) _ _ _ rfl ((hown.alloc _).alloc _) ⟨wr.heap.size + 1, 0, none⟩ 1 1 [S key] rfl rfl (new_cell_at (by simp) _ _) (by intro u hu; simp at hu; subst hu; rfl) (by unfold maxLen; omega) (by omega) (by simp; omega) ?_)
      intro v' w2 hown' hgrow _
      have hB2 : Below w1.heap.size w1 w2 := ((hB.alloc hsz _).alloc (by simp; omega) _).grown hgrow (by simp; omega) (fun j hj => (hown.lt j hj).1)
      clear hgrow hown hB hc1 hc2
      go_wp2
      go_roundw
      case rel => exact ⟨k + 1, dn ++ [key], by omega, by go_num, HTK.out, by have := HDK.out; simp; omega, by rw [List.length_append, List.map_append]; exact hown', hB2⟩
      case measure => simp [intOf]; omega
    · have hlt' : ¬ (k : Int) < (n.parts.length : Int) := by omega
      obtain rfl : k = n.parts.length := by omega
      have HDN0 := Lib.hid (show dn = n.parts.map (fun p : Prt => p.1) by rw [HDN.out, List.take_of_length_le (Nat.le_refl _)])
      have HDK0 := HDK
      have HO0 := Lib.hid hown
      have HB0 := Lib.hid hB
      have hz2 := (hB.block _ (heap_lt HZ.out)).trans HZ.out
      obtain ⟨⟨y0, y1, y2, y3⟩, -, -⟩ := box4 hz2
      obtain ⟨dn0, rfl⟩ : ∃ dn0, dn0 = dn := ⟨_, rfl⟩
      clear hown hB hbb z0 z1 z2 z3 HDN HDK hz2
      go_wp2
      go_loopw [3, 24] (fun v i wr => ∃ (k : Nat) (dn : List (List UInt8)), k ≤ n.ents.length ∧ i = .int .i64 k ∧ dn = n.parts.map (fun p : Prt => p.1) ++ (n.ents.take k).map (fun e : Ent => e.2.2.2) ∧ dn.length = n.parts.length + k ∧ wr.ownsRow w1.heap.size 9 1 v dn.length (dn.map S) ∧ Below w1.heap.size w1 wr) (fun _ i _ => n.ents.length - (intOf i).toNat)
      case atStart => exact ⟨0, dn0, Nat.zero_le _, rfl, by rw [HDN0.out]; simp, by rw [HDK0.out]; rfl, HO0.out, HB0.out⟩
      case round =>
        obtain ⟨k, dn, hk, rfl, hdn, hdk, hown, hB⟩ := hrel
        have HDN := Lib.hid hdn
        have HDK := Lib.hid hdk
        have hdl : dn.length ≤ 1100000 := by omega
        clear hdn hdk
        have hsz := hB.size
        have hbb := below_chain HB1.out hB HB1.out.size
        by_cases hlt : k < n.ents.length
        · have hlt' : (k : Int) < (n.ents.length : Int) := by omega
          obtain ⟨a0, c0, hv, -, -, hx⟩ := HR.out.ents
          obtain ⟨g1, g2⟩ : ua = a0 ∧ uc = c0 := by cases hv; exact ⟨rfl, rfl⟩
          subst g1 g2
          clear hv
          rcases hx with hx | ⟨b, o, rfl, hx⟩
          · exfalso; rw [hx] at hlt; simp at hlt
          obtain ⟨hc1, hc2, hc3, hc4⟩ := ent_cells hx hlt
          replace hc1 := cell_below hbb hc1
          replace hc2 := cell_below hbb hc2
          replace hc3 := cell_below hbb hc3
          replace hc4 := cell_below hbb hc4
          have HTK := Lib.hid (show dn ++ [n.ents[k].2.2.2] = n.parts.map (fun p : Prt => p.1) ++ (n.ents.take (k + 1)).map (fun e : Ent => e.2.2.2) by rw [List.take_succ_eq_append_getElem hlt, List.map_append, HDN.out]; simp)
          clear hx hbb
          generalize n.ents[k] = y at *
          obtain ⟨nm, ek, ex, key⟩ := y
          simp only at hc1 hc2 hc3 hc4
          go_wp2_with (at_builtin; refine wpList_append_own _ rfl _ _ 23 rfl w1.heap.size 9 i0 (.string ⟨#[]⟩) 1 16 Tryz.underlying23 hi hz0 hz1 hz2 rfl (by decide) _ _ _ rfl ((hown.alloc _).alloc _) ⟨wr.heap.size + 1, 0, none⟩ 1 1 [S key] rfl rfl (new_cell_at (by simp) _ _) (by intro u hu; simp at hu; subst hu; rfl) (by unfold maxLen; omega) (by omega) (by simp; omega) ?_)
          intro v' w2 hown' hgrow _
          have hB2 : Below w1.heap.size w1 w2 := ((hB.alloc hsz _).alloc (by simp; omega) _).grown hgrow (by simp; omega) (fun j hj => (hown.lt j hj).1)
          clear hgrow hown hB hc1 hc2 hc3 hc4
          go_wp2
          go_roundw
          case rel => exact ⟨k + 1, dn ++ [key], by omega, by go_num, HTK.out, by have := HDK.out; simp; omega, by rw [List.length_append, List.map_append]; exact hown', hB2⟩
          case measure => simp [intOf]; omega
        · have hlt' : ¬ (k : Int) < (n.ents.length : Int) := by omega
          obtain rfl : k = n.ents.length := by omega
          have HTL := Lib.hid (show dn = kidsL n by rw [HDN.out, List.take_of_length_le (Nat.le_refl _)]; rfl)
          have C := kof2_walk _ dn wr (StrRow.of_owns hown) hdl
          rw [HTL.out] at C
          have HBB := Lib.hid hbb
          have HWS := Lib.hid (show w.heap.size ≤ wr.heap.size from HBB.out.size)
          clear hown hB hbb
          go_wp2_with fail
          refine C.mono ?_
          rintro e w3 ⟨v3, rfl, hr3, hb3⟩
          have HR3 := Lib.hid hr3
          clear hr3 C
          go_wp2
          go_ret
          exact ⟨_, rfl, own_mono HWS.out HR3.out, below_chain HBB.out hb3 HBB.out.size⟩
theorem pkids_walk (vp ve : Value) (n : Nod) (w : World) (hr : NodRow w n vp ve) (hcnt : n.parts.length + n.ents.length ≤ 1100000) :
    Calls Tryz.prog 57 #[NodV n vp ve] w fun e w' => ∃ v', e = .returned v' ∧ StrRow w' v' (kidsN n) ∧ Below w.heap.size w w' := by
  refine (pkids2_walk vp ve n w hr hcnt).mono ?_
  rintro e w' ⟨v', rfl, h, hb⟩
  exact ⟨v', rfl, StrRow.of_owns h, hb⟩
end Go.Proofs.YtaompdnnkfmjhaaGreatDoor

namespace Go.Proofs.YtaompdnnkfmjhaaGreatDoor
open Go.RowKit

theorem kidsR_of (raw : List UInt8) : kidsN (readN raw).1 = kidsR raw := by
  unfold kidsR
  split
  · rfl
  · rename_i h
    rcases read_or raw with ⟨n, hn⟩ | hn
    · rw [hn] at h; exact absurd rfl h
    · rw [hn]; simp [kidsN, zNod, setOf, kidsL]
theorem read_small (raw : List UInt8) : (readN raw).1.parts.length + (readN raw).1.ents.length ≤ 1100000 := by
  rcases read_or raw with ⟨n, hn⟩ | hn
  · have := read_tot (s := raw) (by rw [hn]); omega
  · rw [hn]; simp [zNod]

set_option maxHeartbeats 4000000 in
set_option maxRecDepth 100000 in
theorem ckids1_walk (la : Option Addr) (lc : Nat) (o : List Snp) (c : Nat) (key : List UInt8) (w : World) (hb : w.heap[c]? = some (.cells #[.slice la o.length lc] 22 (0, 0))) (ho : SnpRow w (.slice la o.length lc) o) (hT : ErrT w) (hup : upS (namesR o)) (hol : o.length ≤ 1100000) (hraw : ∀ x ∈ o, x.2.length ≤ 1000000) :
    Calls Tryz.prog 54 #[S key, .pointer (some ⟨c, 0, none⟩)] w fun e w' => ∃ v, e = .returned v ∧ StrRow w' v (kidsO o key) ∧ Below w.heap.size w w' := by
  have CG := pget_walk (.slice la o.length lc) o key w ho hol hup
  have HT := Lib.hid hT
  have hrl : (rootOf (findR o key)).length ≤ 1000000 := by
    cases hf : findR o key with
    | none => simp [rootOf]
    | some r =>
      unfold findR at hf
      rw [Option.map_eq_some_iff] at hf
      obtain ⟨x, hx, rfl⟩ := hf
      exact hraw x (List.mem_of_find?_eq_some hx)
  rw [show kidsO o key = kidsN (readN (rootOf (findR o key))).1 from (kidsR_of _).symm]
  have c0 := heap_cell hb (j := 0) (v := .slice la o.length lc) rfl
  have HTOT := Lib.hid (read_small (rootOf (findR o key)))
  generalize rootOf (findR o key) = raw at *
  generalize (findR o key).isSome = is at *
  clear hraw ho hT hb
  go_enter Tryz.func54, Tryz.ntmps54
  go_wp2_with fail
  refine CG.mono ?_
  rintro e w2 ⟨rfl, hb2⟩
  have HB2 := Lib.hid hb2
  have CR := pread2_walk raw w2 (HT.out.below hb2) hrl
  clear CG hb2 c0
  go_wp2_with fail
  refine CR.mono ?_
  rintro e w4 ⟨vp, ve, rfl, hnr, -, hb4⟩
  obtain ⟨pa, pc, rfl⟩ := row_slice hnr.parts
  obtain ⟨ua, uc, rfl⟩ := row_slice hnr.ents
  have HB4 := Lib.hid (below_chain HB2.out hb4 HB2.out.size)
  obtain ⟨w5, hw5, hb45, hn5⟩ : ∃ w5, w5 = w4.alloc (.cells #[.int .i64 (readN raw).1.kind, S (readN raw).1.data, .slice pa (readN raw).1.parts.length pc, .slice ua (readN raw).1.ents.length uc] 36) ∧ Below w4.heap.size w4 w5 ∧ w5.heap[w4.heap.size]? = some (.cells #[.int .i64 (readN raw).1.kind, S (readN raw).1.data, .slice pa (readN raw).1.parts.length pc, .slice ua (readN raw).1.ents.length uc] 36 (0, 0)) :=
    ⟨_, rfl, (Below.refl _ _).alloc (Nat.le_refl _) _, heap_alloc_new _ _⟩
  have CK := pkids_walk (.slice pa (readN raw).1.parts.length pc) (.slice ua (readN raw).1.ents.length uc) (readN raw).1 w5 (hnr.below hb45) HTOT.out
  have HB5 := Lib.hid (below_chain HB4.out hb45 HB4.out.size)
  obtain ⟨⟨z0, z1, z2, z3⟩, -, -⟩ := box4 hn5
  clear CR hnr hb4 hb45 hn5 HTOT
  go_upto_region 3 with fail
  rw [← hw5]
  clear hw5
  go_wp2_with fail
  refine CK.mono ?_
  rintro e w6 ⟨v6, rfl, hr6, hb6⟩
  have HB6 := Lib.hid (below_chain HB5.out hb6 HB5.out.size)
  have HR6 := Lib.hid hr6
  obtain ⟨a6, c6, rfl, -, -, -⟩ := hr6
  clear CK hb6
  go_wp2
  go_ret
  exact ⟨_, rfl, HR6.out, HB6.out⟩

set_option maxHeartbeats 1000000 in
theorem ckids_walk (la : Option Addr) (lc n : Nat) (w : World) :
    Calls Tryz.prog 31 #[.slice la n lc] w fun e w' => e = .returned (.func (.func 54) #[] #[.pointer (some ⟨w.heap.size, 0, none⟩)]) ∧ w' = w.alloc (.cells #[.slice la n lc] 22) := by
  go_enter Tryz.func31, Tryz.ntmps31
  go_wp2
  go_ret
  exact ⟨rfl, rfl⟩
end Go.Proofs.YtaompdnnkfmjhaaGreatDoor
