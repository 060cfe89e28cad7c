/- The reference's set of keys out of keys. The reference's Kids. A row that goes on by append: where it lies behind it. -/
import Derived.Test.YtengciicdnkgaaaGreatDoorJKey
import Derived.Test.YtengciicdnkgaaaGreatDoorOwnP
import Derived.Test.YtengciicdnkgaaaGreatDoorNodeB
import Derived.Test.YtengciicdnkgaaaGreatDoorJRow
namespace Go.Proofs.YtengciicdnkgaaaGreatDoor
open Go.RowKit

theorem setOf_step {l : List (List UInt8)} {k : Nat} (h : k < l.length) : setOf (l.take (k + 1)) = if len32 l[k] then addL (setOf (l.take k)) l[k] else setOf (l.take k) := by
  unfold setOf
  rw [List.take_succ_eq_append_getElem h, List.filter_append, List.foldl_append]
  by_cases hk : len32 l[k] = true
  · rw [if_pos hk, List.filter_cons_of_pos hk]; rfl
  · rw [if_neg hk, List.filter_cons_of_neg hk]; rfl

set_option maxHeartbeats 2000000 in
set_option maxRecDepth 100000 in
theorem rof2_walk (v : Value) (l : List (List UInt8)) (w : World) (hr : StrRow w v l) (hcnt : l.length ≤ 1100000) :
    Calls Tryz.prog 29 #[v] w fun e w' => ∃ v', e = .returned v' ∧ w'.ownsRow w.heap.size 9 1 v' (setOf l).length ((setOf l).map S) ∧ Below w.heap.size w w' := by
  obtain ⟨a, c, rfl, hc, hm, hx⟩ := hr
  have HX := Lib.hid hx
  clear hx
  go_enter Tryz.func29, Tryz.ntmps29
  go_wp2
  go_loopw [3, 4] (fun v i wr => ∃ k : Nat, k ≤ l.length ∧ i = .int .i64 k ∧ wr.ownsRow w.heap.size 9 1 v (setOf (l.take k)).length ((setOf (l.take k)).map S) ∧ Below w.heap.size w wr) (fun _ i _ => l.length - (intOf i).toNat)
  case atStart => exact ⟨0, Nat.zero_le _, rfl, World.ownsRow_nil _ _ _ _, Below.refl _ _⟩
  case round =>
    obtain ⟨k, hk, rfl, hrow, hB⟩ := hrel
    have HROW := Lib.hid hrow
    have HB := Lib.hid hB
    clear hrow
    by_cases h1 : k < l.length
    · have h1' : (k : Int) < (l.length : Int) := by omega
      have hx := HX.out
      rcases hx with hx | ⟨b, o, rfl, hx⟩
      · exfalso; rw [hx] at h1; simp at h1
      have hc1 := cell_below hB (str_cell hx h1)
      have HST := Lib.hid (setOf_step h1)
      have hlen : (setOf (l.take k)).length ≤ 1100000 := by
        have := setOf_len (l.take k); rw [List.length_take] at this; omega
      have CA := fun y => radd2_walk u3 (setOf (l.take k)) y wr (StrRow.of_owns HROW.out) hlen (setOf_up _)
      clear hx hlen hB
      generalize l[k] = y at *
      generalize setOf (l.take k) = S0 at *
      by_cases h32 : y.length = 32
      · have hq : ((y.length : Int) == 32) = true := by rw [beq_iff_eq]; omega
        have HS := Lib.hid (show setOf (l.take (k + 1)) = addL S0 y by rw [HST.out, if_pos (by simp [len32, h32])])
        have C := CA y
        clear h32 CA HST
        go_wp2_with fail
        refine C.mono ?_
        rintro e w2 ⟨v2, rfl, hr2, hb2⟩
        have HR2 := Lib.hid (show w2.ownsRow w.heap.size 9 1 v2 (addL S0 y).length ((addL S0 y).map S) by
          rcases hr2 with ⟨h1, rfl⟩ | h
          · rw [h1]; exact own_keep HROW.out (fun g _ h2 => hb2.block g h2)
          · exact own_mono HB.out.size h)
        clear hr2 C hc1
        go_wp2
        go_roundw
        case rel => exact ⟨k + 1, by omega, by go_num, by rw [HS.out]; exact HR2.out, below_chain HB.out hb2 HB.out.size⟩
        case measure => simp [intOf]; omega
      · have hq : ((y.length : Int) == 32) = false := by rw [beq_eq_false_iff_ne]; omega
        have HS := Lib.hid (show setOf (l.take (k + 1)) = S0 by rw [HST.out, if_neg (by simp [len32, h32])])
        clear h32 CA HST
        go_wp2
        go_roundw
        case rel => exact ⟨k + 1, by omega, by go_num, by rw [HS.out]; exact HROW.out, HB.out⟩
        case measure => simp [intOf]; omega
    · have h1' : ¬ (k : Int) < (l.length : Int) := by omega
      rw [List.take_of_length_le (by omega)] at HROW
      go_wp2
      go_ret
      exact ⟨_, rfl, HROW.out, HB.out⟩
theorem rof_walk (v : Value) (l : List (List UInt8)) (w : World) (hr : StrRow w v l) (hcnt : l.length ≤ 1100000) :
    Calls Tryz.prog 29 #[v] w fun e w' => ∃ v', e = .returned v' ∧ StrRow w' v' (setOf l) ∧ Below w.heap.size w w' := by
  refine (rof2_walk v l w hr hcnt).mono ?_
  rintro e w' ⟨v', rfl, h, hb⟩
  exact ⟨v', rfl, StrRow.of_owns h, hb⟩
end Go.Proofs.YtengciicdnkgaaaGreatDoor

namespace Go.Proofs.YtengciicdnkgaaaGreatDoor
open Go.RowKit

set_option maxHeartbeats 4000000 in
set_option maxRecDepth 100000 in
theorem rkids2_walk (vp ve : Value) (n : Nod) (w : World) (hr : NodRow w n vp ve) (hcnt : n.parts.length + n.ents.length ≤ 1100000) :
    Calls Tryz.prog 32 #[NodV n vp ve] w fun e w' => ∃ v', e = .returned v' ∧ w'.ownsRow w.heap.size 9 1 v' (kidsN n).length ((kidsN n).map S) ∧ Below w.heap.size w w' := by
  obtain ⟨i0, hi, hz0, hz1, hz2⟩ := info_parts infoStr
  obtain ⟨w1, hw1, HB1, HZ⟩ : ∃ w1, w1 = w.alloc (.cells #[.int .i64 n.kind, S n.data, vp, ve] 54) ∧ Hid (Below w.heap.size w w1) ∧ Hid (w1.heap[w.heap.size]? = some (.cells #[.int .i64 n.kind, S n.data, vp, ve] 54 (0, 0))) :=
    ⟨_, rfl, (Below.refl _ _).alloc (Nat.le_refl _) _, heap_alloc_new _ _⟩
  have HR := Lib.hid hr
  obtain ⟨va, vc, rfl⟩ := row_slice hr.parts
  obtain ⟨ua, uc, rfl⟩ := row_slice hr.ents
  obtain ⟨⟨z0, z1, z2, z3⟩, -, -⟩ := box4 HZ.out
  unfold kidsN
  clear hr
  go_enter Tryz.func32, Tryz.ntmps32
  go_upto_region 1 with fail
  rw [← hw1]
  clear hw1
  go_wp2
  go_loopw [3, 4] (fun v i wr => ∃ (k : Nat) (dn : List (List UInt8)), k ≤ n.parts.length ∧ i = .int .i64 k ∧ dn = (n.parts.take k).map (fun p : Prt => p.1) ∧ dn.length = k ∧ wr.ownsRow w1.heap.size 9 1 v dn.length (dn.map S) ∧ Below w1.heap.size w1 wr) (fun _ i _ => n.parts.length - (intOf i).toNat)
  case atStart => exact ⟨0, [], Nat.zero_le _, rfl, rfl, rfl, World.ownsRow_nil _ _ _ _, Below.refl _ _⟩
  case round =>
    obtain ⟨k, dn, hk, rfl, hdn, hdk, hown, hB⟩ := hrel
    have HDN := Lib.hid hdn
    have HDK := Lib.hid hdk
    have hdl : dn.length ≤ 1100000 := by omega
    clear hdn hdk
    have hsz := hB.size
    have hbb := below_chain HB1.out hB HB1.out.size
    have hz2 := (hB.block _ (heap_lt HZ.out)).trans HZ.out
    obtain ⟨⟨y0, y1, y2, y3⟩, -, -⟩ := box4 hz2
    clear hz2
    by_cases hlt : k < n.parts.length
    · have hlt' : (k : Int) < (n.parts.length : Int) := by omega
      obtain ⟨a0, c0, hv, -, -, hx⟩ := HR.out.parts
      obtain ⟨g1, g2⟩ : va = a0 ∧ vc = c0 := by cases hv; exact ⟨rfl, rfl⟩
      subst g1 g2
      clear hv
      rcases hx with hx | ⟨b, o, rfl, hx⟩
      · exfalso; rw [hx] at hlt; simp at hlt
      obtain ⟨hc1, hc2⟩ := prt_cells hx hlt
      replace hc1 := cell_below hbb hc1
      replace hc2 := cell_below hbb hc2
      have HTK := Lib.hid (show dn ++ [n.parts[k].1] = (n.parts.take (k + 1)).map (fun p : Prt => p.1) by rw [List.take_succ_eq_append_getElem hlt, List.map_append, HDN.out]; simp)
      clear hx hbb
      generalize n.parts[k] = y at *
      obtain ⟨key, sz⟩ := y
      simp only at hc1 hc2
      go_wp2_with (at_builtin; refine wpList_append_own _ rfl _ _ 22 rfl w1.heap.size 9 i0 (.string ⟨#[]⟩) 1 16 Tryz.underlying22 hi hz0 hz1 hz2 rfl (by decide) _ _ _ rfl (hown.alloc _) ⟨wr.heap.size, 0, none⟩ 1 1 [S key] rfl rfl (new_cell_at (by simp) _ _) (by intro u hu; simp at hu; subst hu; rfl) (by unfold maxLen; omega) (by omega) (by simp; omega) ?_)
      intro v' w2 hown' hgrow _
      have hB2 : Below w1.heap.size w1 w2 := (hB.alloc hsz _).grown hgrow (by simp; omega) (fun j hj => (hown.lt j hj).1)
      clear hgrow hown hB hc1 hc2
      go_wp2
      go_roundw
      case rel => exact ⟨k + 1, dn ++ [key], by omega, by go_num, HTK.out, by have := HDK.out; simp; omega, by rw [List.length_append, List.map_append]; exact hown', hB2⟩
      case measure => simp [intOf]; omega
    · have hlt' : ¬ (k : Int) < (n.parts.length : Int) := by omega
      obtain rfl : k = n.parts.length := by omega
      have HDN0 := Lib.hid (show dn = n.parts.map (fun p : Prt => p.1) by rw [HDN.out, List.take_of_length_le (Nat.le_refl _)])
      have HDK0 := HDK
      have HO0 := Lib.hid hown
      have HB0 := Lib.hid hB
      obtain ⟨dn0, rfl⟩ : ∃ dn0, dn0 = dn := ⟨_, rfl⟩
      clear hown hB hbb z0 z1 z2 z3 HDN HDK
      go_wp2
      go_loopw [3, 5] (fun v i wr => ∃ (k : Nat) (dn : List (List UInt8)), k ≤ n.ents.length ∧ i = .int .i64 k ∧ dn = n.parts.map (fun p : Prt => p.1) ++ (n.ents.take k).map (fun e : Ent => e.2.2.2) ∧ dn.length = n.parts.length + k ∧ wr.ownsRow w1.heap.size 9 1 v dn.length (dn.map S) ∧ Below w1.heap.size w1 wr) (fun _ i _ => n.ents.length - (intOf i).toNat)
      case atStart => exact ⟨0, dn0, Nat.zero_le _, rfl, by rw [HDN0.out]; simp, by rw [HDK0.out]; rfl, HO0.out, HB0.out⟩
      case round =>
        obtain ⟨k, dn, hk, rfl, hdn, hdk, hown, hB⟩ := hrel
        have HDN := Lib.hid hdn
        have HDK := Lib.hid hdk
        have hdl : dn.length ≤ 1100000 := by omega
        clear hdn hdk
        have hsz := hB.size
        have hbb := below_chain HB1.out hB HB1.out.size
        have hz2 := (hB.block _ (heap_lt HZ.out)).trans HZ.out
        obtain ⟨⟨y0, y1, y2, y3⟩, -, -⟩ := box4 hz2
        clear hz2
        by_cases hlt : k < n.ents.length
        · have hlt' : (k : Int) < (n.ents.length : Int) := by omega
          obtain ⟨a0, c0, hv, -, -, hx⟩ := HR.out.ents
          obtain ⟨g1, g2⟩ : ua = a0 ∧ uc = c0 := by cases hv; exact ⟨rfl, rfl⟩
          subst g1 g2
          clear hv
          rcases hx with hx | ⟨b, o, rfl, hx⟩
          · exfalso; rw [hx] at hlt; simp at hlt
          obtain ⟨hc1, hc2, hc3, hc4⟩ := ent_cells hx hlt
          replace hc1 := cell_below hbb hc1
          replace hc2 := cell_below hbb hc2
          replace hc3 := cell_below hbb hc3
          replace hc4 := cell_below hbb hc4
          have HTK := Lib.hid (show dn ++ [n.ents[k].2.2.2] = n.parts.map (fun p : Prt => p.1) ++ (n.ents.take (k + 1)).map (fun e : Ent => e.2.2.2) by rw [List.take_succ_eq_append_getElem hlt, List.map_append, HDN.out]; simp)
          clear hx hbb
          generalize n.ents[k] = y at *
          obtain ⟨nm, ek, ex, key⟩ := y
          simp only at hc1 hc2 hc3 hc4
          go_wp2_with (at_builtin; refine wpList_append_own _ rfl _ _ 22 rfl w1.heap.size 9 i0 (.string ⟨#[]⟩) 1 16 Tryz.underlying22 hi hz0 hz1 hz2 rfl (by decide) _ _ _ rfl (hown.alloc _) ⟨wr.heap.size, 0, none⟩ 1 1 [S key] rfl rfl (new_cell_at (by simp) _ _) (by intro u hu; simp at hu; subst hu; rfl) (by unfold maxLen; omega) (by omega) (by simp; omega) ?_)
          intro v' w2 hown' hgrow _
          have hB2 : Below w1.heap.size w1 w2 := (hB.alloc hsz _).grown hgrow (by simp; omega) (fun j hj => (hown.lt j hj).1)
          clear hgrow hown hB hc1 hc2 hc3 hc4
          go_wp2
          go_roundw
          case rel => exact ⟨k + 1, dn ++ [key], by omega, by go_num, HTK.out, by have := HDK.out; simp; omega, by rw [List.length_append, List.map_append]; exact hown', hB2⟩
          case measure => simp [intOf]; omega
        · have hlt' : ¬ (k : Int) < (n.ents.length : Int) := by omega
          obtain rfl : k = n.ents.length := by omega
          have HTL := Lib.hid (show dn = kidsL n by rw [HDN.out, List.take_of_length_le (Nat.le_refl _)]; rfl)
          have C := rof2_walk _ dn wr (StrRow.of_owns hown) hdl
          rw [HTL.out] at C
          have HBB := Lib.hid hbb
          clear hown hB hbb
          go_wp2_with fail
          refine C.mono ?_
          rintro e w3 ⟨v3, rfl, hr3, hb3⟩
          have HR3 := Lib.hid hr3
          clear hr3 C
          go_wp2
          go_ret
          exact ⟨_, rfl, own_mono HBB.out.size HR3.out, below_chain HBB.out hb3 HBB.out.size⟩
theorem rkids_walk (vp ve : Value) (n : Nod) (w : World) (hr : NodRow w n vp ve) (hcnt : n.parts.length + n.ents.length ≤ 1100000) :
    Calls Tryz.prog 32 #[NodV n vp ve] w fun e w' => ∃ v', e = .returned v' ∧ StrRow w' v' (kidsN n) ∧ Below w.heap.size w w' := by
  refine (rkids2_walk vp ve n w hr hcnt).mono ?_
  rintro e w' ⟨v', rfl, h, hb⟩
  exact ⟨v', rfl, StrRow.of_owns h, hb⟩
end Go.Proofs.YtengciicdnkgaaaGreatDoor

namespace Go.Proofs.YtengciicdnkgaaaGreatDoor
open Go.RowKit

theorem run_append_sep {P : Program} (w : World) (base : Nat) (t ty e : TypeId) (i : TypeInfo) (z : Value) (size bytes : Nat) (ht : P.underlying t = some (.slice e)) (hi : P.info? e = some i) (hz : i.zero = some z)
    (hsize : i.size = size) (hby : i.bytes = bytes) (hzs : z.cells.size = size) (hsz : 0 < size)
    (v : Value) (n : Nat) (xs : List Value) (hown : w.ownsRow base e size v n xs)
    (a : Addr) (m c : Nat) (news : List Value) (hl : news.length = m * size) (hnews : ∀ j u, news[j]? = some u → w.cell? (a.add j) = some u) (h1 : ∀ u ∈ news, u.oneCell' = true)
    (h63 : n + m ≤ maxLen) (hbytes : (n + m) * bytes ≤ 140737488355328) (hbase : base ≤ w.heap.size) (hm : 0 < m) :
    ∃ v' w', (Builtin.append_ #[t, t] ty #[v, .slice (some a) m c]).run P w = .ok v' w' ∧ w'.ownsRow base e size v' (n + m) (xs ++ news) ∧ w.grownBy w' v.ownBlock ∧
      (v'.ownBlock = v.ownBlock ∨ v'.ownBlock = some w.heap.size) := by
  obtain ⟨v', w', hr, h2, h3, _⟩ := run_append_own (P := P) w base t ty e i z size bytes ht hi hz hsize hby hzs hsz v n xs hown a m c news hl hnews h1 h63 hbytes hbase
  refine ⟨v', w', hr, h2, h3, ?_⟩
  subst hsize
  subst hby
  have hsmall : n + m ≤ 9223372036854775807 := by simp only [maxLen] at h63; omega
  rcases hown.2 with ⟨rfl, rfl⟩ | ⟨g, cap, cur, rfl, hbg, hg, hnc, hcm, hcs, htake⟩
  · have hq := run_append_nil (P := P) w t ty e i z ht hi hz a m c news hl hnews hm (by omega) (by have hb := hbytes; simp only [Nat.zero_add] at hb; omega)
    rw [hr] at hq
    cases hq
    exact .inr rfl
  · by_cases hroom : n + m ≤ cap
    · have hfit : n * i.size + news.length ≤ cur.size := by rw [hl, hcs, ← Nat.add_mul]; exact Nat.mul_le_mul_right _ hroom
      have hq := run_append_room (P := P) w t ty e i ht hi g n cap cur hg a m c news hl hnews h1 hroom hfit
      rw [hr] at hq
      cases hq
      exact .inl rfl
    · have holds : ∀ j u, xs[j]? = some u → w.cell? ((⟨g, 0, none⟩ : Addr).add j) = some u := hown.cells (g := g) rfl
      have hq := run_append_grow (P := P) w t ty e i z ht hi hz ⟨g, 0, none⟩ n cap xs hown.1 holds a m c news hl hnews (by omega) (by omega) (growslice_fits (by omega) hbytes)
      rw [hr] at hq
      cases hq
      exact .inr rfl

theorem wpList_append_sep {P : Program} {w : World} {ops : Array Oper} {rest : List Oper} {o : Oper} {a : Act} {Q : Exit → Act → World → Prop} (hgd : o.guard = none) (s x : Operand) (t : TypeId)
    (ho : o.op = .call { callee := .builtin .append, args := #[s, x], argTypes := #[t, t] })
    (base : Nat) (e : TypeId) (i : TypeInfo) (z : Value) (size bytes : Nat) (ht : P.underlying t = some (.slice e)) (hi : P.info? e = some i) (hz : i.zero = some z)
    (hsize : i.size = size) (hby : i.bytes = bytes) (hzs : z.cells.size = size) (hsz : 0 < size)
    (v : Value) (n : Nat) (xs : List Value) (hs : a.eval s = v) (hown : w.ownsRow base e size v n xs)
    (ad : Addr) (m c : Nat) (news : List Value) (hx : a.eval x = .slice (some ad) m c) (hl : news.length = m * size) (hnews : ∀ j u, news[j]? = some u → w.cell? (ad.add j) = some u) (h1 : ∀ u ∈ news, u.oneCell' = true)
    (h63 : n + m ≤ maxLen) (hbytes : (n + m) * bytes ≤ 140737488355328) (hbase : base ≤ w.heap.size) (hm : 0 < m)
    (h : ∀ v' w', w'.ownsRow base e size v' (n + m) (xs ++ news) → w.grownBy w' v.ownBlock → (v'.ownBlock = v.ownBlock ∨ v'.ownBlock = some w.heap.size) → wpList P ops Q rest (a.put o.dst v') w') : wpList P ops Q (o :: rest) a w := by
  refine wpList_plain hgd fun K hK => ?_
  obtain ⟨v', w', hr, h2, h3, h4⟩ := run_append_sep (P := P) w base t o.type e i z size bytes ht hi hz hsize hby hzs hsz v n xs hown ad m c news hl hnews h1 h63 hbytes hbase hm
  have hK' := hK _ _ (h v' w' h2 h3 h4)
  unfold Oper.wp execOp
  simp only [ho, resolve, invoke, builtin, Sem.run_bind, Sem.run_pure, Result.andThen_ok, List.map_toArray, List.map_cons, List.map_nil, hs, hx, hr]
  exact hK'
theorem run_append_none {P : Program} (w : World) (t ty e : TypeId) (i : TypeInfo) (ht : P.underlying t = some (.slice e)) (hi : P.info? e = some i) (b : Option Addr) (n cap c : Nat) (h : n ≤ cap) :
    (Builtin.append_ #[t, t] ty #[.slice b n cap, .slice none 0 c]).run P w = .ok (.slice b n cap) w := by
  cases b <;> simp [Builtin.append_, run_underlying ht, sizeOf, typeInfo, hi, Builtin.lenOf, Builtin.firstCells, h, storeCells]

/-- A row of texts, nil or not, appended to a row of the call's own. -/
theorem wpList_append_row {P : Program} {w : World} {ops : Array Oper} {rest : List Oper} {o : Oper} {a : Act} {Q : Exit → Act → World → Prop} (hgd : o.guard = none) (s x : Operand) (t : TypeId)
    (ho : o.op = .call { callee := .builtin .append, args := #[s, x], argTypes := #[t, t] })
    (base : Nat) (e : TypeId) (i : TypeInfo) (z : Value) (ht : P.underlying t = some (.slice e)) (hi : P.info? e = some i) (hz : i.zero = some z)
    (hsize : i.size = 1) (hby : i.bytes = 16) (hzs : z.cells.size = 1)
    (v : Value) (n : Nat) (xs : List Value) (hs : a.eval s = v) (hown : w.ownsRow base e 1 v n xs)
    (vx : Value) (l : List (List UInt8)) (hx : a.eval x = vx) (hrow : StrRow w vx l)
    (h63 : n + l.length ≤ 1100000) (hbase : base ≤ w.heap.size)
    (h : ∀ v' w', w'.ownsRow base e 1 v' (n + l.length) (xs ++ l.map S) → Below base w w' → wpList P ops Q rest (a.put o.dst v') w') : wpList P ops Q (o :: rest) a w := by
  obtain ⟨a', c', rfl, hc, hm, hxx⟩ := hrow
  cases a' with
  | none =>
    have hl : l = [] := by
      rcases hxx with hxx | ⟨b, o, hb, _⟩
      · exact hxx
      · cases hb
    subst hl
    refine wpList_plain hgd fun K hK => ?_
    have hcap : ∃ b cap, v = .slice b n cap ∧ n ≤ cap := by
      rcases hown.2 with ⟨rfl, rfl⟩ | ⟨g, cap, cur, rfl, _, _, hnc, _⟩
      · exact ⟨_, _, rfl, Nat.le_refl _⟩
      · exact ⟨_, _, rfl, hnc⟩
    obtain ⟨b, cap, rfl, hncap⟩ := hcap
    have hr := run_append_none (P := P) w t o.type e i ht hi b n cap c' hncap
    have hK' := hK _ _ (h (.slice b n cap) w (by simpa using hown) (Below.refl _ _))
    unfold Oper.wp execOp
    simp only [List.length_nil] at hx
    simp only [ho, resolve, invoke, builtin, Sem.run_bind, Sem.run_pure, Result.andThen_ok, List.map_toArray, List.map_cons, List.map_nil, hs, hx, hr]
    exact hK'
  | some ad =>
    refine wpList_append_own w hgd s x t ho base e i z 1 16 ht hi hz hsize hby hzs (by decide) v n xs hs hown ad l.length c' (l.map S) hx (by simp) (fun j u hj => ?_) (by intro u hu; obtain ⟨x, _, rfl⟩ := List.mem_map.1 hu; rfl) (by unfold maxLen; omega) (by omega) hbase (fun v' w' h1 h2 _ => h v' w' h1 ?_)
    · rcases hxx with hxx | ⟨b, o, hb, hxx⟩
      · rw [hxx] at hj; cases hj
      · cases hb
        rw [Addr.add_lit]
        rw [List.getElem?_map] at hj
        cases hlj : l[j]? with
        | none => rw [hlj] at hj; cases hj
        | some x => rw [hlj] at hj; cases hj; exact hxx j x hlj
    · exact (Below.refl base w).grown h2 hbase (fun k hk => (hown.lt k hk).1)
/-- An empty row, as a literal writes it. -/
theorem own_empty (w : World) (e : TypeId) : (w.alloc (.cells #[] e)).ownsRow w.heap.size e 1 (.slice (some ⟨w.heap.size, 0, none⟩) 0 0) 0 [] :=
  ⟨rfl, .inr ⟨w.heap.size, 0, #[], rfl, Nat.le_refl _, heap_alloc_new w _, Nat.le_refl _, Nat.zero_le _, rfl, rfl⟩⟩
end Go.Proofs.YtengciicdnkgaaaGreatDoor
