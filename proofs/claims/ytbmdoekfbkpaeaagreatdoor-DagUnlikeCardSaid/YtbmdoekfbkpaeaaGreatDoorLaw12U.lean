/- DagUnlike: two trees have one key just if they are the same, unless two of both's bytes have one sum. Printed by gen/law12u.py. -/
import Derived.Test.YtbmdoekfbkpaeaaGreatDoorJClash12
import Derived.Test.YtbmdoekfbkpaeaaGreatDoorJSort12L
import Derived.Test.YtbmdoekfbkpaeaaGreatDoorJFew12
import Derived.Test.YtbmdoekfbkpaeaaGreatDoorJR11
namespace Go.Proofs.YtbmdoekfbkpaeaaGreatDoor
open Go.RowKit

theorem take_snoc_u {α : Type} {l m : List α} {k : Nat} (h1 : k < l.length) (h2 : k < m.length) (h : l.take k = m.take k) (he : l[k] = m[k]) : l.take (k + 1) = m.take (k + 1) := by
  rw [List.take_succ_eq_append_getElem h1, List.take_succ_eq_append_getElem h2, h, he]
theorem at_ne_u {α : Type} {l m : List α} {k : Nat} (h1 : k < l.length) (h2 : k < m.length) (h : l[k] ≠ m[k]) : l ≠ m := by
  intro e; subst e; exact h rfl
theorem itm_ne_u {p1 p2 t1 t2 : List UInt8} {d1 d2 e1 e2 : Bool} (h : ((p1, d1, e1, t1) : Itm) ≠ (p2, d2, e2, t2)) :
    ((p1 == p2) = false) ∨ ((p1 == p2) = true ∧ (d1 == d2) = false) ∨ ((p1 == p2) = true ∧ (d1 == d2) = true ∧ (e1 == e2) = false) ∨ ((p1 == p2) = true ∧ (d1 == d2) = true ∧ (e1 == e2) = true ∧ (t1 == t2) = false) := by
  by_cases h1 : p1 = p2
  · by_cases h2 : d1 = d2
    · by_cases h3 : e1 = e2
      · by_cases h4 : t1 = t2
        · exact absurd (by rw [h1, h2, h3, h4]) h
        · exact .inr (.inr (.inr ⟨by simpa using h1, by simpa using h2, by simpa using h3, by simpa using h4⟩))
      · exact .inr (.inr (.inl ⟨by simpa using h1, by simpa using h2, by simpa using h3⟩))
    · exact .inr (.inl ⟨by simpa using h1, by simpa using h2⟩)
  · exact .inl (by simpa using h1)
set_option maxHeartbeats 16000000 in
set_option maxRecDepth 100000 in
theorem unlike12_walk (x y z : Int) (v : Value) (l : List Itm) (vm : Value) (m : List Itm) (w : World) (hM : Mx w) (hT : TzT w) (hr : ItRow w v l) (hd : ∀ i ∈ l, i.2.2.2.length ≤ 140737488355328) (hr2 : ItRow w vm m) (hd2 : ∀ i ∈ m, i.2.2.2.length ≤ 140737488355328) :
    Calls Tryz.prog 5 #[.agg #[.int .i64 x, .int .i64 y, .int .i64 z], v, vm] w fun e w' => e = .returned (.bool true) ∧ Below w.heap.size w w' := by
  obtain ⟨w1, hw1, HB1, HC1⟩ : ∃ w1, w1 = w.alloc (.cells #[.int .i64 x, .int .i64 y, .int .i64 z] 23) ∧ Hid (Below w.heap.size w w1) ∧ Hid (w1.heap[w.heap.size]? = some (.cells #[.int .i64 x, .int .i64 y, .int .i64 z] 23 (0, 0))) :=
    ⟨_, rfl, Lib.hid ((Below.refl _ _).alloc (Nat.le_refl _) _), Lib.hid (heap_alloc_new _ _)⟩
  obtain ⟨is, his, hq0, hq1, hq2⟩ := info_parts infoStr
  have C1 := few12_walk x y z v l w1 (hr.below HB1.out) hd
  have HR := Lib.hid hr
  have HR2 := Lib.hid hr2
  have HD2 := Lib.hid hd2
  have HM := Lib.hid hM
  have HT := Lib.hid hT
  obtain ⟨a, c, rfl, -, -, hx⟩ := hr
  obtain ⟨a2, c2, rfl, -, -, hx2⟩ := hr2
  have HX := Lib.hid hx
  have HX2 := Lib.hid hx2
  have c0 := heap_cell HC1.out (j := 0) (v := .int .i64 x) rfl
  have c1 := heap_cell HC1.out (j := 1) (v := .int .i64 y) rfl
  have c2' := heap_cell HC1.out (j := 2) (v := .int .i64 z) rfl
  clear hM hT hd hd2 hx hx2
  go_enter Tryz.func5, Tryz.ntmps5
  go_upto_region 1 with fail
  rw [← hw1]
  clear hw1
  go_wp2_with fail
  refine C1.mono ?_
  rintro e w2 ⟨f, rfl, hf, hb2⟩
  have HB2 := Lib.hid (below_chain HB1.out hb2 HB1.out.size)
  have HC2 := Lib.hid ((hb2.block _ (heap_lt HC1.out)).trans HC1.out)
  have HF := Lib.hid hf
  clear C1 c0 c1 c2' hb2 hf
  cases f with
  | false => (have CA := awake12b_walk w2 (HM.out.below HB2.out) (HT.out.below HB2.out); go_wp2_with fail; refine CA.mono ?_; rintro e wy ⟨rfl, hby⟩; have hBy := below_chain HB2.out hby (Below.size HB2.out); go_wp2; go_ret; exact ⟨rfl, hBy⟩)
  | true =>
  have c0 := heap_cell HC2.out (j := 0) (v := .int .i64 x) rfl
  have c1 := heap_cell HC2.out (j := 1) (v := .int .i64 y) rfl
  have c2' := heap_cell HC2.out (j := 2) (v := .int .i64 z) rfl
  have C2 := few12_walk x y z (.slice a2 m.length c2) m w2 (HR2.out.below HB2.out) HD2.out
  go_wp2_with fail
  refine C2.mono ?_
  rintro e w3 ⟨f, rfl, hf, hb3⟩
  have HB3 := Lib.hid (below_chain HB2.out hb3 HB2.out.size)
  have HC3 := Lib.hid ((hb3.block _ (heap_lt HC2.out)).trans HC2.out)
  have HF2 := Lib.hid hf
  clear C2 c0 c1 c2' hb3 hf
  cases f with
  | false => (have CA := awake12b_walk w3 (HM.out.below HB3.out) (HT.out.below HB3.out); go_wp2_with fail; refine CA.mono ?_; rintro e wy ⟨rfl, hby⟩; have hBy := below_chain HB3.out hby (Below.size HB3.out); go_wp2; go_ret; exact ⟨rfl, hBy⟩)
  | true =>
  obtain ⟨⟨x', k, z', hfc, hxe, hye, hze, hrd⟩, hl70, -⟩ := HF.out (by first | rfl | trivial)
  obtain ⟨⟨x2, k2, z2, hfc2, hxe2, hye2, hze2, hrd2⟩, -⟩ := HF2.out (by first | rfl | trivial)
  obtain rfl : x2 = x' := by omega
  obtain rfl : z2 = z' := by omega
  have hkk : 2 ^ k2 = 2 ^ k := by omega
  obtain rfl : k2 = k := by
    rcases Nat.lt_trichotomy k2 k with h | h | h
    · have := Nat.pow_lt_pow_right (a := 2) (by decide) h; omega
    · exact h
    · have := Nat.pow_lt_pow_right (a := 2) (by decide) h; omega
  subst hxe
  subst hye
  subst hze
  have CPL := fun (W : World) (hb : Below w.heap.size w W) => build12_walk x2 k2 (2 ^ k2) z2 c a l W hfc rfl hrd (HR.out.below hb) (HM.out.below hb) (HT.out.below hb) hrd.fit.len
  have CPM := fun (W : World) (hb : Below w.heap.size w W) => build12_walk x2 k2 (2 ^ k2) z2 c2 a2 m W hfc rfl hrd2 (HR2.out.below hb) (HM.out.below hb) (HT.out.below hb) hrd2.fit.len
  have CRL := fun (W : World) (hb : Below w.heap.size w W) => rraws12_walk x2 k2 (2 ^ k2) z2 (.slice a l.length c) l W hfc rfl hrd (HR.out.below hb) (by have := hrd.nodes_len; omega)
  have CRM := fun (W : World) (hb : Below w.heap.size w W) => rraws12_walk x2 k2 (2 ^ k2) z2 (.slice a2 m.length c2) m W hfc rfl hrd2 (HR2.out.below hb) (by have := hrd2.nodes_len; omega)
  have HUN := Lib.hid (unlike_keys hrd hrd2)
  have HRL := Lib.hid (rawsN_small (nodesD (piecesC x2 k2 z2) l 9 []))
  have HRM := Lib.hid (rawsN_small (nodesD (piecesC x2 k2 z2) m 9 []))
  have hrl : (rawsN (nodesD (piecesC x2 k2 z2) l 9 [])).length ≤ 70000 := by rw [rawsN_len]; exact hrd.nodes_len
  have hrm : (rawsN (nodesD (piecesC x2 k2 z2) m 9 [])).length ≤ 70000 := by rw [rawsN_len]; exact hrd2.nodes_len
  have HRP := Lib.hid (rawsN_pos (pc := piecesC x2 k2 z2) (items := m) 9 [])
  have c0 := heap_cell HC3.out (j := 0) (v := .int .i64 (x2 : Nat)) rfl
  have c1 := heap_cell HC3.out (j := 1) (v := .int .i64 ((2 ^ k2 : Nat) : Int)) rfl
  have c2' := heap_cell HC3.out (j := 2) (v := .int .i64 (z2 : Nat)) rfl
  clear hfc hrd hfc2 hrd2 HF HF2 hkk
  generalize keyN (dirN (piecesC x2 k2 z2) l 9 []) = k1 at *
  generalize keyN (dirN (piecesC x2 k2 z2) m 9 []) = k3 at *
  generalize rawsN (nodesD (piecesC x2 k2 z2) l 9 []) = rl at *
  generalize rawsN (nodesD (piecesC x2 k2 z2) m 9 []) = rm at *
  generalize dirO (piecesC x2 k2 z2) l 9 [] [] = ol at *
  generalize dirO (piecesC x2 k2 z2) m 9 [] [] = om at *
  generalize 2 ^ k2 = y at *
  have CPL3 := CPL w3 HB3.out
  go_wp2_with fail
  refine CPL3.mono ?_
  rintro e w4 ⟨v4, rfl, -, hb4⟩
  have HB4' := Lib.hid (below_chain HB3.out hb4 HB3.out.size)
  have HC4' := Lib.hid ((hb4.block _ (heap_lt HC3.out)).trans HC3.out)
  clear CPL3 CPL c0 c1 c2' hb4
  have c0 := heap_cell HC4'.out (j := 0) (v := .int .i64 (x2 : Nat)) rfl
  have c1 := heap_cell HC4'.out (j := 1) (v := .int .i64 (y : Nat)) rfl
  have c2' := heap_cell HC4'.out (j := 2) (v := .int .i64 (z2 : Nat)) rfl
  have CPM4 := CPM w4 HB4'.out
  go_wp2_with fail
  refine CPM4.mono ?_
  rintro e w5 ⟨v5, rfl, -, hb5⟩
  have HB4 := Lib.hid (below_chain HB4'.out hb5 HB4'.out.size)
  have hC5 := (hb5.block _ (heap_lt HC4'.out)).trans HC4'.out
  clear CPM4 CPM c0 c1 c2' hb5
  have l0 := LaterOf.cell (heap_cell hC5 (j := 0) (v := .int .i64 (x2 : Nat)) rfl)
  have l1 := LaterOf.cell (heap_cell hC5 (j := 1) (v := .int .i64 (y : Nat)) rfl)
  have l2 := LaterOf.cell (heap_cell hC5 (j := 2) (v := .int .i64 (z2 : Nat)) rfl)
  have CL := fun lw : LaterOf w5 => CRL lw.world (below_chain HB4.out lw.below HB4.out.size)
  have CM := fun lw : LaterOf w5 => CRM lw.world (below_chain HB4.out lw.below HB4.out.size)
  clear CRL CRM hC5
  go_wp2
  go_cut [43] from 44 (fun cv wc => ∃ cb : Bool, cv = .bool cb ∧ Hid (Below w.heap.size w wc) ∧ Hid (cb = false → (k1 = k3 ↔ l = m)))
  case first =>
    (refine wp_held (by kernel_rfl) ?_; intro lw)
    (refine wpAnyH_take (i := 0) (v := ?_) rfl (by kernel_rfl) (by kernel_rfl) (by kernel_rfl) (fun _ _ _ h => h) (Or.inl ⟨by rfl, ?_⟩) ⟨_, rfl⟩ ?_; rotate_left; (intro w9 hS9; obtain ⟨p9, hp9⟩ := hS9; subst hp9; go_simp; try with_reducible rfl))
    (refine wpAnyH_take (i := 1) (v := ?_) rfl (by kernel_rfl) (by kernel_rfl) (by kernel_rfl) (fun _ _ _ h => h) (Or.inl ⟨by rfl, ?_⟩) ⟨_, rfl⟩ ?_; rotate_left; (intro w9 hS9; obtain ⟨p9, hp9⟩ := hS9; subst hp9; go_simp; try with_reducible rfl))
    (refine wpAnyH_take (i := 3) (v := ?_) rfl (by kernel_rfl) (by kernel_rfl) (by kernel_rfl) (fun _ _ _ h => h) (Or.inl ⟨by rfl, ?_⟩) ⟨_, rfl⟩ ?_; rotate_left; (intro w9 hS9; obtain ⟨p9, hp9⟩ := hS9; subst hp9; go_simp; try with_reducible rfl))
    (refine wpAnyH_take (i := 4) (v := ?_) rfl (by kernel_rfl) (by kernel_rfl) (by kernel_rfl) (fun _ _ _ h => h) (Or.inl ⟨by rfl, ?_⟩) ⟨_, rfl⟩ ?_; rotate_left; (intro w9 hS9; obtain ⟨p9, hp9⟩ := hS9; subst hp9; go_simp; try with_reducible rfl))
    (refine wpAnyH_one (i := 2) (by kernel_rfl) rfl (fun K hK => ?_); go_simp; refine (CL lw).mono ?_; rintro e wz ⟨v1, rfl, ho1, hb1⟩; (obtain ⟨lw1, rfl⟩ : ∃ p : LaterOf _, wz = p.world := ⟨⟨wz, below_chain lw.below hb1 lw.below.size⟩, rfl⟩); refine hK _ _ ⟨lw1, rfl⟩ ?_; clear hK K)
    (refine wpAnyH_one (i := 5) (by kernel_rfl) rfl (fun K hK => ?_); go_simp; refine (CM lw1).mono ?_; rintro e wz ⟨v2, rfl, ho2, hb2⟩; (obtain ⟨lw2, rfl⟩ : ∃ p : LaterOf _, wz = p.world := ⟨⟨wz, below_chain lw1.below hb2 lw1.below.size⟩, rfl⟩); refine hK _ _ ⟨lw2, rfl⟩ ?_; clear hK K)
    replace ho1 := own_base (own_on ho1 hb2) lw.below.size
    replace ho2 := own_base ho2 lw1.below.size
    obtain ⟨g2, cap2, rfl⟩ : ∃ g2 cap2, v2 = .slice (some ⟨g2, 0, none⟩) rm.length cap2 := by
      rcases ho2.2 with ⟨h, h0⟩ | ⟨g, cap, cur, h, _⟩
      · exfalso; have := HRP.out; omega
      · exact ⟨g, cap, h⟩
    refine wpAnyH_one (i := 6) (by kernel_rfl) rfl (fun K hK => ?_)
    rw [if_pos (by rfl)]
    refine wp_append_own _ (.tmp 38) (.tmp 41) 32 rfl w5.heap.size 9 is (.string ⟨#[]⟩) 1 16 Tryz.underlying32 his hq0 hq1 hq2 rfl (by decide) v1 rl.length (rl.map S) rfl ho1 ⟨g2, 0, none⟩ rm.length cap2 (rm.map S) rfl (by simp) (ho2.cells rfl) (by intro u hu; obtain ⟨x, _, rfl⟩ := List.mem_map.1 hu; rfl) (by unfold maxLen; omega) (by omega) lw2.below.size ?_
    intro v' w7 hown' hgrow _
    have ho3 : w7.ownsRow w5.heap.size 9 1 v' (rl ++ rm).length ((rl ++ rm).map S) := by rw [List.length_append, List.map_append]; exact hown'
    obtain ⟨lw3, rfl⟩ : ∃ p : LaterOf w5, w7 = p.world := ⟨⟨w7, lw2.below.grown hgrow lw2.below.size (fun k hk => (ho1.lt k hk).1)⟩, rfl⟩
    have CC := rclash12_walk v' (rl ++ rm) lw3.world (StrRow.of_owns ho3) (by rw [List.length_append]; omega) (by intro x hx; exact (List.mem_append.1 hx).elim (HRL.out x) (HRM.out x))
    clear hown' hgrow ho1 ho2 ho3
    refine hK _ _ ⟨lw3, rfl⟩ ?_
    clear hK K
    (refine wpAnyH_one (i := 7) (by kernel_rfl) rfl (fun K hK => ?_); go_simp; refine (CC).mono ?_; rintro e wz ⟨cb, rfl, hcb, hb8⟩; (obtain ⟨lw4, rfl⟩ : ∃ p : LaterOf _, wz = p.world := ⟨⟨wz, below_chain lw3.below hb8 lw3.below.size⟩, rfl⟩); refine hK _ _ ⟨lw4, rfl⟩ ?_; clear hK K)
    clear CC hb8
    (refine wpAnyH_done (by kernel_rfl) ?_ _)
    have HB6 := Lib.hid (below_chain HB4.out lw4.below HB4.out.size)
    have HEQ := Lib.hid (fun (h : cb = false) => HUN.out (fun hp => by have := hcb.2 hp; rw [h] at this; cases this))
    obtain ⟨w6, hw6⟩ : ∃ w6, w6 = lw4.world := ⟨_, rfl⟩
    rw [← hw6] at HB6 ⊢
    clear hcb HUN HRL HRM hw6
    go_wp2
    go_meet
    case rel => exact ⟨cb, rfl, HB6, HEQ⟩
  case rest =>
  rename_i cv wc hcut
  obtain ⟨cb, rfl, HB6, HEQ⟩ := hcut
  clear l0 l1 l2 CL CM HUN HRL HRM HRP HB1 HC1 HB2 HC2 HB3 HC3 HB4' HC4' HB4 HD2
  obtain ⟨w6, hw6⟩ : ∃ w6, w6 = wc := ⟨_, rfl⟩
  rw [← hw6] at HB6 ⊢
  clear hw6
  cases cb with
  | true => (have CA := awake12b_walk w6 (HM.out.below HB6.out) (HT.out.below HB6.out); go_wp2_with fail; refine CA.mono ?_; rintro e wy ⟨rfl, hby⟩; have hBy := below_chain HB6.out hby (Below.size HB6.out); go_wp2; go_ret; exact ⟨rfl, hBy⟩)
  | false =>
  have HKL := Lib.hid (fun (h : l = m) => (beq_iff_eq.2 ((HEQ.out rfl).2 h) : (k1 == k3) = true))
  have HKN := Lib.hid (fun (h : l ≠ m) => (beq_eq_false_iff_ne.2 (fun e => h ((HEQ.out rfl).1 e)) : (k1 == k3) = false))
  obtain ⟨se, hse⟩ : ∃ se, ((l.length : Int) == (m.length : Int)) = se := ⟨_, rfl⟩
  have HS0 := Lib.hid (show (se = true → l.length = m.length) ∧ (se = false → l ≠ m) from by
    subst hse
    refine ⟨fun h => by have := eq_of_beq h; omega, fun h e => ?_⟩
    rw [e] at h
    simp at h)
  clear HEQ
  go_wp2
  go_loopw [11, 12] (fun sv iv wr => ∃ (k : Nat) (sb : Bool), sv = .bool sb ∧ iv = .int .i64 k ∧ k ≤ l.length ∧ Hid ((sb = true → l.take k = m.take k ∧ l.length = m.length) ∧ (sb = false → l ≠ m)) ∧ Below w.heap.size w wr) (fun _ i _ => l.length - (intOf i).toNat)
  case atStart => exact ⟨0, se, rfl, rfl, Nat.zero_le _, Lib.hid ⟨fun h => ⟨rfl, HS0.out.1 h⟩, HS0.out.2⟩, HB6.out⟩
  case round =>
    obtain ⟨k, sb, rfl, rfl, hk, HS, hB⟩ := hrel
    have HB := Lib.hid hB
    cases sb with
    | false =>
      have HKF := Lib.hid (HKN.out (HS.out.2 rfl))
      have hkf := HKF.out
      clear hB
      have CA := awake12b_walk wr (HM.out.below HB.out) (HT.out.below HB.out)
      go_wp2_with fail
      refine CA.mono ?_
      rintro e wy ⟨rfl, hby⟩
      have hBy := below_chain HB.out hby (Below.size HB.out)
      go_wp2
      go_ret
      exact ⟨rfl, hBy⟩
    | true =>
    by_cases h1 : k < l.length
    · have hlm := (HS.out.1 rfl).2
      have h2 : k < m.length := by omega
      have h1' : (k : Int) < (l.length : Int) := by omega
      have h2' : (k : Int) < (m.length : Int) := by omega
      have HLM := Lib.hid hlm
      have hx := HX.out
      rcases hx with hx | ⟨b, o, rfl, hx⟩
      · exfalso; rw [hx] at h1; simp at h1
      have hy := HX2.out
      rcases hy with hy | ⟨b2, o2, rfl, hy⟩
      · exfalso; rw [hy] at h2; simp at h2
      obtain ⟨hx1, hx2, hx3, hx4⟩ := it_cells hx h1
      obtain ⟨hy1, hy2, hy3, hy4⟩ := it_cells hy h2
      have hc1 := cell_below hB hx1
      have hc2 := cell_below hB hx2
      have hc3 := cell_below hB hx3
      have hc4 := cell_below hB hx4
      have hd1 := cell_below hB hy1
      have hd2 := cell_below hB hy2
      have hd3 := cell_below hB hy3
      have hd4 := cell_below hB hy4
      have HSO := Lib.hid (fun h => take_snoc_u h1 h2 (HS.out.1 rfl).1 h)
      have HDO := Lib.hid (fun h => at_ne_u h1 h2 h)
      clear hx hy hx1 hx2 hx3 hx4 hy1 hy2 hy3 hy4 hB hlm
      generalize l[k] = yi at *
      generalize m[k] = zi at *
      obtain ⟨p1, d1, e1, t1⟩ := yi
      obtain ⟨p2, d2, e2, t2⟩ := zi
      simp only at hc1 hc2 hc3 hc4 hd1 hd2 hd3 hd4
      by_cases hpq : ((p1, d1, e1, t1) : Itm) = (p2, d2, e2, t2)
      · have HSS := Lib.hid (HSO.out hpq)
        cases hpq
        go_wp2
        go_quiet (fail)
        go_wp2
        go_roundw
        case rel => exact ⟨k + 1, true, by simp, by go_num, by omega, Lib.hid ⟨fun _ => ⟨HSS.out, HLM.out⟩, fun h => (by cases h)⟩, belowN HB.out _⟩
        case measure => simp [intOf]; omega
      · have HRR := Lib.hid (HDO.out hpq)
        have hcase := itm_ne_u hpq
        clear hpq
        rcases hcase with q1 | ⟨q1, q2⟩ | ⟨q1, q2, q3⟩ | ⟨q1, q2, q3, q4⟩
        all_goals
          go_wp2
          go_quiet (fail)
          go_wp2
          go_roundw
          case rel => exact ⟨k + 1, false, by simp, by go_num, by omega, Lib.hid ⟨fun h => (by cases h), fun _ => HRR.out⟩, belowN HB.out _⟩
          case measure => simp [intOf]; omega
    · have h1' : ¬ (k : Int) < (l.length : Int) := by omega
      have hkf := HKL.out (by
        obtain ⟨e1, e2⟩ := HS.out.1 rfl
        rw [List.take_of_length_le (by omega), List.take_of_length_le (by omega)] at e1
        exact e1)
      clear hB
      have CA := awake12b_walk wr (HM.out.below HB.out) (HT.out.below HB.out)
      go_wp2_with fail
      refine CA.mono ?_
      rintro e wy ⟨rfl, hby⟩
      have hBy := below_chain HB.out hby (Below.size HB.out)
      go_wp2
      go_ret
      exact ⟨rfl, hBy⟩
end Go.Proofs.YtbmdoekfbkpaeaaGreatDoor
