/- What is reached from a tree's key is all of its objects: plain. The reference's set of keys out of keys. The reference's keys of objects. The reference's answers on trees: under, Same. -/
import Derived.Test.YtkejdbidomlonaaGreatDoorJFetchB
import Derived.Test.YtkejdbidomlonaaGreatDoorJReachP
import Derived.Test.YtkejdbidomlonaaGreatDoorJBuildPlain
import Derived.Test.YtkejdbidomlonaaGreatDoorJOwnP
import Derived.Test.YtkejdbidomlonaaGreatDoorJObjAt
import Derived.RangeFuncBox
import Derived.Test.YtkejdbidomlonaaGreatDoorJTreePlain2
namespace Go.Proofs.YtkejdbidomlonaaGreatDoor

section
variable {pc : List UInt8 → List (List UInt8)} {items : List Itm}
theorem kids_of {o : List Snp} {n : Nod} (hn : FitN n) (h : findR o (keyN n) = some (writeN n)) : kidsO o (keyN n) = kidsN n ∧ okO o (keyN n) = true := by
  have h1 : readN (writeN n) = (n, 0) := read_write hn
  unfold kidsO okO
  rw [h]
  simp only [rootOf]
  unfold kidsR
  rw [h1]
  simp
theorem reach_nodes (hr : Ready pc items) {o : List Snp} {P : List UInt8 → Prop} : ∀ (n : Nat) (d : List UInt8), Loads o (nodesD pc items n d) → Reached o P (keyN (dirN pc items n d)) → ∀ m ∈ nodesD pc items n d, Reached o P (keyN m)
  | 0, d, _, h, m, hm => by rw [List.mem_singleton.1 hm]; exact h
  | n + 1, d, hl, h, m, hm => by
    have hk := (kids_of (hr.dir (n + 1) d) (hl _ (nodesD_top (n + 1) d))).1
    rw [nodesD_succ] at hm
    rcases List.mem_append.1 hm with hm | hm
    · obtain ⟨x, hx, hm⟩ := List.mem_flatMap.1 hm
      have hx1 := (mem_inD.1 hx).1
      have he : entK pc (fun p => keyN (dirN pc items n p)) x ∈ (dirN pc items (n + 1) d).ents := List.mem_map.2 ⟨x, hx, rfl⟩
      cases hd : x.2.1 with
      | true =>
        rw [hd, if_pos rfl] at hm
        have e3 : (entK pc (fun p => keyN (dirN pc items n p)) x).2.2.2 = keyN (dirN pc items n x.1) := by simp [entK, hd]
        have h2 : keyN (dirN pc items n x.1) ∈ kidsO o (keyN (dirN pc items (n + 1) d)) := by
          rw [hk, ← e3]
          exact (kidsN_ent he).2 (by rw [e3]; exact keyN_len (hr.dir n x.1))
        exact reach_nodes hr n x.1 (fun q hq => hl q (nodesD_dir hx hd q hq)) (h.next h2) m hm
      | false =>
        rw [hd, if_neg (by simp)] at hm
        have e3 : (entK pc (fun p => keyN (dirN pc items n p)) x).2.2.2 = keyN (fileN (pc x.2.2.2)) := by simp [entK, hd]
        have h2 : keyN (fileN (pc x.2.2.2)) ∈ kidsO o (keyN (dirN pc items (n + 1) d)) := by
          rw [hk, ← e3]
          exact (kidsN_ent he).2 (by rw [e3]; exact keyN_len (hr.file hx1))
        have h3 := h.next h2
        have hkf := (kids_of (hr.file hx1) (hl _ (nodesD_file hx hd _ (List.mem_append_right _ (List.mem_singleton.2 rfl))))).1
        unfold nodesF at hm
        rcases List.mem_append.1 hm with hm | hm
        · obtain ⟨s, hs, rfl⟩ := List.mem_map.1 hm
          refine h3.next ?_
          rw [hkf]
          have hp : partN s ∈ (fileN (pc x.2.2.2)).parts := List.mem_map.2 ⟨s, hs, rfl⟩
          have h4 := hr.each x hx1 s hs
          exact (kidsN_part hp).2 (keyN_len (fit_piece h4.1 h4.2))
        · rw [List.mem_singleton.1 hm]; exact h3
    · rw [List.mem_singleton.1 hm]; exact h
theorem reach_all (hr : Ready pc items) (h1 : OneK (nodesD pc items 9 [])) (x : List UInt8) : Reached (dirO pc items 9 [] []) (seedP [keyN (dirN pc items 9 [])]) x ↔ x ∈ namesR (dirO pc items 9 [] []) := by
  have hl := loads_objs hr h1
  have hns := nodesD_fit hr 9 []
  constructor
  · intro h
    refine h (fun k => k ∈ namesR (dirO pc items 9 [] [])) (fun k hk => ?_) (fun k y hk hy => ?_)
    · rw [dirO_fold]
      have e : k = keyN (dirN pc items 9 []) := by
        unfold seedP at hk
        simpa using hk.1
      rw [e]
      exact fold_key _ rfl hns _ (nodesD_top 9 [])
    · obtain ⟨z, hz, rfl⟩ := List.mem_map.1 hk
      obtain ⟨n, hn, e⟩ := obj_node hr hz
      rw [e] at hy
      rw [(kids_of (hns n hn) (hl n hn)).1] at hy
      obtain ⟨q, hq, rfl⟩ := nodesD_kids 9 [] hn hy
      rw [dirO_fold]
      exact fold_key _ rfl hns q hq
  · intro h
    obtain ⟨z, hz, rfl⟩ := List.mem_map.1 h
    obtain ⟨n, hn, e⟩ := obj_node hr hz
    rw [e]
    exact reach_nodes hr 9 [] hl (Reached.seed ⟨by simp, keyN_len (hr.dir 9 [])⟩) n hn
theorem reach_ok (hr : Ready pc items) (h1 : OneK (nodesD pc items 9 [])) {Q : List (List UInt8)} (hq : ∀ x ∈ Q, x ∈ namesR (dirO pc items 9 [] [])) : Q.all (okO (dirO pc items 9 [] [])) = true := by
  rw [List.all_eq_true]
  intro x hx
  obtain ⟨z, hz, rfl⟩ := List.mem_map.1 (hq x hx)
  obtain ⟨n, hn, e⟩ := obj_node hr hz
  rw [e]
  exact (kids_of (nodesD_fit hr 9 [] n hn) (loads_objs hr h1 n hn)).2
end
end Go.Proofs.YtkejdbidomlonaaGreatDoor

namespace Go.Proofs.YtkejdbidomlonaaGreatDoor
open Go.RowKit

theorem setOf_step {l : List (List UInt8)} {k : Nat} (h : k < l.length) : setOf (l.take (k + 1)) = if len32 l[k] then addL (setOf (l.take k)) l[k] else setOf (l.take k) := by
  unfold setOf
  rw [List.take_succ_eq_append_getElem h, List.filter_append, List.foldl_append]
  by_cases hk : len32 l[k] = true
  · rw [if_pos hk, List.filter_cons_of_pos hk]; rfl
  · rw [if_neg hk, List.filter_cons_of_neg hk]; rfl

set_option maxHeartbeats 2000000 in
set_option maxRecDepth 100000 in
theorem rof2_walk (v : Value) (l : List (List UInt8)) (w : World) (hr : StrRow w v l) (hcnt : l.length ≤ 1100000) :
    Calls Tryz.prog 34 #[v] w fun e w' => ∃ v', e = .returned v' ∧ w'.ownsRow w.heap.size 9 1 v' (setOf l).length ((setOf l).map S) ∧ Below w.heap.size w w' := by
  obtain ⟨a, c, rfl, hc, hm, hx⟩ := hr
  have HX := Lib.hid hx
  clear hx
  go_enter Tryz.func34, Tryz.ntmps34
  go_wp2
  go_loopw [3, 4] (fun v i wr => ∃ k : Nat, k ≤ l.length ∧ i = .int .i64 k ∧ wr.ownsRow w.heap.size 9 1 v (setOf (l.take k)).length ((setOf (l.take k)).map S) ∧ Below w.heap.size w wr) (fun _ i _ => l.length - (intOf i).toNat)
  case atStart => exact ⟨0, Nat.zero_le _, rfl, World.ownsRow_nil _ _ _ _, Below.refl _ _⟩
  case round =>
    obtain ⟨k, hk, rfl, hrow, hB⟩ := hrel
    have HROW := Lib.hid hrow
    have HB := Lib.hid hB
    clear hrow
    by_cases h1 : k < l.length
    · have h1' : (k : Int) < (l.length : Int) := by omega
      have hx := HX.out
      rcases hx with hx | ⟨b, o, rfl, hx⟩
      · exfalso; rw [hx] at h1; simp at h1
      have hc1 := cell_below hB (str_cell hx h1)
      have HST := Lib.hid (setOf_step h1)
      have hlen : (setOf (l.take k)).length ≤ 1100000 := by
        have := setOf_len (l.take k); rw [List.length_take] at this; omega
      have CA := fun y => radd2_walk u3 (setOf (l.take k)) y wr (StrRow.of_owns HROW.out) hlen (setOf_up _)
      clear hx hlen hB
      generalize l[k] = y at *
      generalize setOf (l.take k) = S0 at *
      by_cases h32 : y.length = 32
      · have hq : ((y.length : Int) == 32) = true := by rw [beq_iff_eq]; omega
        have HS := Lib.hid (show setOf (l.take (k + 1)) = addL S0 y by rw [HST.out, if_pos (by simp [len32, h32])])
        have C := CA y
        clear h32 CA HST
        go_wp2_with fail
        refine C.mono ?_
        rintro e w2 ⟨v2, rfl, hr2, hb2⟩
        have HR2 := Lib.hid (show w2.ownsRow w.heap.size 9 1 v2 (addL S0 y).length ((addL S0 y).map S) by
          rcases hr2 with ⟨h1, rfl⟩ | h
          · rw [h1]; exact own_keep HROW.out (fun g _ h2 => hb2.block g h2)
          · exact own_mono HB.out.size h)
        clear hr2 C hc1
        go_wp2
        go_roundw
        case rel => exact ⟨k + 1, by omega, by go_num, by rw [HS.out]; exact HR2.out, below_chain HB.out hb2 HB.out.size⟩
        case measure => simp [intOf]; omega
      · have hq : ((y.length : Int) == 32) = false := by rw [beq_eq_false_iff_ne]; omega
        have HS := Lib.hid (show setOf (l.take (k + 1)) = S0 by rw [HST.out, if_neg (by simp [len32, h32])])
        clear h32 CA HST
        go_wp2
        go_roundw
        case rel => exact ⟨k + 1, by omega, by go_num, by rw [HS.out]; exact HROW.out, HB.out⟩
        case measure => simp [intOf]; omega
    · have h1' : ¬ (k : Int) < (l.length : Int) := by omega
      rw [List.take_of_length_le (by omega)] at HROW
      go_wp2
      go_ret
      exact ⟨_, rfl, HROW.out, HB.out⟩
theorem rof_walk (v : Value) (l : List (List UInt8)) (w : World) (hr : StrRow w v l) (hcnt : l.length ≤ 1100000) :
    Calls Tryz.prog 34 #[v] w fun e w' => ∃ v', e = .returned v' ∧ StrRow w' v' (setOf l) ∧ Below w.heap.size w w' := by
  refine (rof2_walk v l w hr hcnt).mono ?_
  rintro e w' ⟨v', rfl, h, hb⟩
  exact ⟨v', rfl, StrRow.of_owns h, hb⟩
end Go.Proofs.YtkejdbidomlonaaGreatDoor

namespace Go.Proofs.YtkejdbidomlonaaGreatDoor
open Go.RowKit

set_option maxHeartbeats 4000000 in
set_option maxRecDepth 100000 in
theorem rkeys12_walk (v : Value) (o : List Snp) (w : World) (hr : SnpRow w v o) (hcnt : o.length ≤ 1000000) :
    Calls Tryz.prog 19 #[v] w fun e w' => ∃ v', e = .returned v' ∧ StrRow w' v' (setOf (namesR o)) ∧ Below w.heap.size w w' := by
  obtain ⟨is, his, hq0, hq1, hq2⟩ := info_parts infoStr
  obtain ⟨a, c, rfl, -, -, hx⟩ := hr
  have HX := Lib.hid hx
  clear hx
  go_enter Tryz.func19, Tryz.ntmps19
  go_wp2
  go_loopw [3, 4] (fun rv iv wr => ∃ (q : Nat) (ac : Option Addr) (acap : Nat), q ≤ o.length ∧ iv = .int .i64 q ∧ rv = .slice ac q acap ∧ Hid (wr.ownsRow w.heap.size 9 1 (.slice ac q acap) q ((namesR (o.take q)).map S)) ∧ Hid (Below w.heap.size w wr)) (fun _ iv _ => o.length - (intOf iv).toNat)
  case atStart => exact ⟨0, none, 0, Nat.zero_le _, rfl, rfl, Lib.hid (World.ownsRow_nil _ _ _ _), Lib.hid (Below.refl _ _)⟩
  case round =>
    obtain ⟨q, ac, acap, hq, rfl, rfl, HOW, HB⟩ := hrel
    by_cases h1 : q < o.length
    · have h1' : (q : Int) < (o.length : Int) := by omega
      have hx := HX.out
      rcases hx with hx | ⟨b, oo, rfl, hx⟩
      · exfalso; rw [hx] at h1; simp at h1
      obtain ⟨hx1, hx2⟩ := snp_cells hx h1
      have m1 := cell_below HB.out hx1
      have HNT := Lib.hid (show (namesR (o.take (q + 1))).map S = (namesR (o.take q)).map S ++ [S o[q].1] by rw [List.take_succ_eq_append_getElem h1]; unfold namesR; rw [List.map_append, List.map_append]; rfl)
      clear hx hx1 hx2
      generalize o[q].1 = p at *
      have HSZ := Lib.hid HB.out.size
      go_wp2_with (at_builtin; refine wpList_append_own _ rfl _ _ 38 rfl w.heap.size 9 is (.string ⟨#[]⟩) 1 16 Tryz.underlying38 his hq0 hq1 hq2 rfl (by decide) _ _ _ rfl (HOW.out.alloc _) ⟨wr.heap.size, 0, none⟩ 1 1 [S p] rfl rfl (new_cell_at rfl _ _) (s_one _) (by unfold maxLen; omega) (by omega) (by rw [World.size_alloc]; have := HSZ.out; omega) ?_)
      intro v' w3 hown' hgrow _
      obtain ⟨g', cap', rfl⟩ := ownsRow_succ hown'
      have HB3 := Lib.hid ((HB.out.alloc HB.out.size _).grown hgrow (by simp; have := HSZ.out; omega) (fun j hj => (HOW.out.lt j hj).1))
      have HO3 := Lib.hid hown'
      clear hown' hgrow
      go_wp2
      go_roundw
      case rel => exact ⟨q + 1, some ⟨g', 0, none⟩, cap', by omega, by go_num, rfl, by rw [HNT.out]; exact HO3, HB3⟩
      case measure => simp [intOf]; omega
    · have h1' : ¬ (q : Int) < (o.length : Int) := by omega
      obtain rfl : q = o.length := by omega
      have HS := Lib.hid (show StrRow wr (.slice ac o.length acap) (namesR o) from by
        have h : wr.ownsRow w.heap.size 9 1 (.slice ac o.length acap) (namesR o).length ((namesR o).map S) := by
          have h7 := HOW.out
          rw [List.take_of_length_le (Nat.le_refl _)] at h7
          rw [namesR_len]; exact h7
        exact StrRow.of_owns h)
      have CO := rof_walk (.slice ac o.length acap) (namesR o) wr HS.out (by rw [namesR_len]; omega)
      go_wp2_with fail
      refine CO.mono ?_
      rintro e w4 ⟨v4, rfl, h4, hb4⟩
      have HR4 := Lib.hid h4
      have HB4 := Lib.hid (below_chain HB.out hb4 HB.out.size)
      clear CO h4 hb4
      go_wp2
      go_ret
      exact ⟨_, rfl, HR4.out, HB4.out⟩
end Go.Proofs.YtkejdbidomlonaaGreatDoor

namespace Go.Proofs.YtkejdbidomlonaaGreatDoor
open Go.RowKit


set_option maxHeartbeats 2000000 in
set_option maxRecDepth 100000 in
theorem r10same_walk (v v2 : Value) (l m : List Itm) (w : World) (hr : ItRow w v l) (hr2 : ItRow w v2 m) (hcnt : l.length ≤ 1100000) (_hcnt2 : m.length ≤ 1100000) :
    Calls Tryz.prog 13 #[v, v2] w fun e w' => e = .returned (.bool (decide (l = m))) ∧ Below w.heap.size w w' := by
  have HF := Lib.hid (fun (h : l ≠ m) => decide_eq_false h)
  have HG := Lib.hid (fun (h : l = m) => decide_eq_true h)
  generalize decide (l = m) = res at *
  obtain ⟨a, c, rfl, hc, hm, hx⟩ := hr
  obtain ⟨a2, c2, rfl, hc2, hm2, hx2⟩ := hr2
  have HX := Lib.hid hx
  have HX2 := Lib.hid hx2
  clear hx hx2
  by_cases g : l.length = m.length
  · have gg : ((l.length : Int) != (m.length : Int)) = false := by rw [bne_eq_false_iff_eq]; omega
    have HL := Lib.hid g
    have hle1 : l.length ≤ m.length := by omega
    have hle2 : m.length ≤ l.length := by omega
    clear g
    go_enter Tryz.func13, Tryz.ntmps13
    go_wp2
    go_loopw [5] (fun i wr => ∃ k : Nat, k ≤ l.length ∧ i = .int .i64 k ∧ l.take k = m.take k ∧ Below w.heap.size w wr) (fun i _ => l.length - (intOf i).toNat)
    case atStart => exact ⟨0, Nat.zero_le _, rfl, rfl, Below.refl _ _⟩
    case round =>
      obtain ⟨k, hk, rfl, ht, hB⟩ := hrel
      have HT := Lib.hid ht
      have HB := Lib.hid hB
      clear ht
      by_cases h1 : k < l.length
      · have h2 : k < m.length := by omega
        have h1' : (k : Int) < (l.length : Int) := by omega
        have h2' : (k : Int) < (m.length : Int) := by omega
        have hx := HX.out
        rcases hx with hx | ⟨b, o, rfl, hx⟩
        · exfalso; rw [hx] at h1; simp at h1
        have hy := HX2.out
        rcases hy with hy | ⟨b2, o2, rfl, hy⟩
        · exfalso; rw [hy] at h2; simp at h2
        obtain ⟨hx1, hx2, hx3, hx4⟩ := it_cells hx h1
        obtain ⟨hy1, hy2, hy3, hy4⟩ := it_cells hy h2
        have hc1 := cell_below hB hx1
        have hc2 := cell_below hB hx2
        have hc3 := cell_below hB hx3
        have hc4 := cell_below hB hx4
        have hd1 := cell_below hB hy1
        have hd2 := cell_below hB hy2
        have hd3 := cell_below hB hy3
        have hd4 := cell_below hB hy4
        have HSO := Lib.hid (fun h => take_snoc_eq h1 h2 HT.out h)
        have HDO := Lib.hid (fun h => HF.out (at_ne h1 h2 h))
        clear hx hy hx1 hx2 hx3 hx4 hy1 hy2 hy3 hy4 hB
        generalize l[k] = y at *
        generalize m[k] = z at *
        obtain ⟨p1, d1, e1, t1⟩ := y
        obtain ⟨p2, d2, e2, t2⟩ := z
        simp only at hc1 hc2 hc3 hc4 hd1 hd2 hd3 hd4
        by_cases hpq : ((p1, d1, e1, t1) : Itm) = (p2, d2, e2, t2)
        · have HSS := Lib.hid (HSO.out hpq)
          cases hpq
          go_wp2
          go_quiet (fail)
          go_wp2
          go_roundw
          case rel => exact ⟨k + 1, by omega, by go_num, HSS.out, belowN HB.out _⟩
          case measure => simp [intOf]; omega
        · have HR := Lib.hid (HDO.out hpq)
          have hcase := itm_ne hpq
          clear hpq
          rcases hcase with q1 | ⟨q1, q2⟩ | ⟨q1, q2, q3⟩ | ⟨q1, q2, q3, q4⟩
          all_goals
            go_wp2
            go_quiet (fail)
            go_wp2
            go_ret
            exact ⟨by rw [HR.out]; rfl, belowN HB.out _⟩
      · have h1' : ¬ (k : Int) < (l.length : Int) := by omega
        have HR := Lib.hid (HG.out (by
          have e := HT.out
          rw [List.take_of_length_le (by omega), List.take_of_length_le (by omega)] at e
          exact e))
        go_wp2
        go_ret
        exact ⟨by rw [HR.out]; rfl, HB.out⟩
  · have gg : ((l.length : Int) != (m.length : Int)) = true := by rw [bne_iff_ne]; omega
    have HR := Lib.hid (HF.out (fun e => g (by rw [e])))
    clear g
    go_enter Tryz.func13, Tryz.ntmps13
    go_wp2
    go_ret
    exact ⟨by rw [HR.out]; rfl, Below.refl _ _⟩
end Go.Proofs.YtkejdbidomlonaaGreatDoor
