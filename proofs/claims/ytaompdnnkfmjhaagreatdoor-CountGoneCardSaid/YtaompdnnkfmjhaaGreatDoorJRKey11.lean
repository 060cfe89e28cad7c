/- The reference's Key. The reference's Add of objects. The reference's put of a node's object. -/
import Derived.Test.YtaompdnnkfmjhaaGreatDoorJKeyNP
import Derived.Test.YtaompdnnkfmjhaaGreatDoorJR11c
import Derived.Test.YtaompdnnkfmjhaaGreatDoorJRSha4
import Derived.Test.YtaompdnnkfmjhaaGreatDoorJMapB
import Derived.Test.YtaompdnnkfmjhaaGreatDoorJCMore
import Derived.Deep.Cut
import Derived.Deep.RegionWith
import Derived.Sort.Walk0
namespace Go.Proofs.YtaompdnnkfmjhaaGreatDoor
open Go.RowKit

set_option maxHeartbeats 8000000 in
set_option maxRecDepth 100000 in
theorem rkey11_walk (vp ve : Value) (n : Nod) (w : World) (hr : NodRow w n vp ve) (hd : n.data.length ≤ 1100000) (hp : n.parts.length ≤ 1100000) (he : n.ents.length ≤ 1100000) (hnl : ∀ e ∈ n.ents, e.1.length ≤ 1100000) :
    Calls Tryz.prog 92 #[NodV n vp ve] w fun e w' => e = .returned (S (keyN n)) ∧ Below w.heap.size w w' := by
  obtain ⟨w1, hw1, hB1, hz⟩ : ∃ w1, w1 = w.alloc (.cells #[.int .i64 n.kind, S n.data, vp, ve] 36) ∧ Below w.heap.size w w1 ∧ w1.heap[w.heap.size]? = some (.cells #[.int .i64 n.kind, S n.data, vp, ve] 36 (0, 0)) :=
    ⟨_, rfl, (Below.refl _ _).alloc (Nat.le_refl _) _, heap_alloc_new _ _⟩
  have hr1 := hr.below hB1
  have CF := rfit11_walk vp ve n w1 hr1 hd hp he hnl
  have CW := fun W h => rwrite11_walk vp ve n W h hd hp he hnl
  have hwl := writeN_len (n := n)
  have HR1 := Lib.hid hr1
  have HK := Lib.hid (show keyN n = if fitN n = true then shaF (writeN n) else [] from rfl)
  obtain ⟨⟨z0, z1, z2, z3⟩, -, -⟩ := box4 hz
  generalize keyN n = kn at *
  generalize writeN n = wn at *
  clear hr hr1
  go_enter Tryz.func92, Tryz.ntmps92
  go_upto_region 1 with fail
  rw [← hw1]
  clear hw1
  go_wp2_with fail
  refine CF.mono ?_
  rintro e w2 ⟨rfl, hb2⟩
  have hz2 := (hb2.block _ (heap_lt hz)).trans hz
  have hB2 := below_chain hB1 hb2 hB1.size
  have CW2 := CW w2 (HR1.out.below hb2)
  obtain ⟨⟨y0, y1, y2, y3⟩, -, -⟩ := box4 hz2
  clear CF CW hz hB1 HR1 hb2 z0 z1 z2 z3 hz2
  cases hfb : fitN n with
  | false =>
    have hk := HK.out
    rw [hfb, if_neg (by simp)] at hk
    have HK2 := Lib.hid hk
    clear hk hfb HK
    go_wp2
    go_ret
    exact ⟨by rw [HK2.out]; rfl, hB2⟩
  | true =>
    have hk := HK.out
    rw [hfb, if_pos rfl] at hk
    have HK2 := Lib.hid hk
    have CS := fun W => rsha_walk wn W (by omega)
    clear hk hfb HK
    go_wp2_with fail
    refine CW2.mono ?_
    rintro e w3 ⟨rfl, hb3⟩
    have HB3 := Lib.hid (below_chain hB2 hb3 hB2.size)
    clear CW2 hb3 hB2
    go_wp2_with fail
    refine (CS w3).mono ?_
    rintro e w4 ⟨rfl, hb4⟩
    have HB4 := Lib.hid (below_chain HB3.out hb4 HB3.out.size)
    clear hb4
    go_wp2
    go_ret
    exact ⟨by rw [HK2.out]; rfl, HB4.out⟩
end Go.Proofs.YtaompdnnkfmjhaaGreatDoor

namespace Go.Proofs.YtaompdnnkfmjhaaGreatDoor
open Go.RowKit

theorem infoObj : (Tryz.prog.info? 61).map (fun i => (i.zero, i.size, i.bytes)) = some (some (.agg #[.string ⟨#[]⟩, .string ⟨#[]⟩]), 2, 32) := by kernel_rfl

/-- What a call that adds hands back: the row that it was given, or one of its own. -/
def OGot (w w' : World) (lv : Value) (l : List Snp) (v' : Value) (l' : List Snp) : Prop := (v' = lv ∧ l' = l) ∨ w'.ownsRow w.heap.size 61 2 v' l'.length (l'.flatMap snpC)

set_option maxHeartbeats 4000000 in
set_option maxRecDepth 100000 in
theorem r12add2_walk (v : Value) (l : List Snp) (x : Snp) (w : World) (hr : SnpRow w v l) (hcnt : l.length ≤ 1100000) :
    Calls Tryz.prog 46 #[v, SnpV x] w fun e w' => ∃ v', e = .returned v' ∧ SnpRow w' v' (addO l x) ∧ OGot w w' v l v' (addO l x) ∧ Below w.heap.size w w' := by
  obtain ⟨p, q⟩ := x
  have hr1 := hr.below ((Below.refl w.heap.size w).alloc (Nat.le_refl _) (.cells #[S p, S q] 61))
  have C := rget_walk v l p _ hr1 hcnt
  have HD := Lib.hid (show addO l (p, q) = if (findR l p).isSome = true ∨ p.length ≠ 32 then l else insR l (p, q) from rfl)
  generalize rootOf (findR l p) = fr at *
  generalize (findR l p).isSome = is at *
  generalize addO l (p, q) = de at *
  have HR1 := Lib.hid hr1
  obtain ⟨a, c, rfl, hc, hm, hx⟩ := hr
  have HX := Lib.hid hx
  clear hx hr1
  obtain ⟨i0, hi, hz0, hz1, hz2⟩ := info_parts infoObj
  have hBx : Below w.heap.size w (w.alloc (.cells #[S p, S q] 61)) := (Below.refl _ _).alloc (Nat.le_refl _) _
  have hcx1 : (w.alloc (.cells #[S p, S q] 61)).cell? ⟨w.heap.size, 0, none⟩ = some (S p) := by rw [World.cell?_alloc_at _ _ _ _ rfl]; rfl
  have hcx2 : (w.alloc (.cells #[S p, S q] 61)).cell? ⟨w.heap.size, 1, none⟩ = some (S q) := by rw [World.cell?_alloc_at _ _ _ _ rfl]; rfl
  go_enter Tryz.func46, Tryz.ntmps46
  go_wp2_with fail
  refine C.mono ?_
  rintro e w1 ⟨rfl, hb⟩
  have hp1 := cell_below hb hcx1
  have hp2 := cell_below hb hcx2
  have hB1 : Below w.heap.size w w1 := below_chain hBx hb (by simp)
  have hs1 : w.heap.size + 1 ≤ w1.heap.size := by have := hb.size; simpa using this
  have hr1 := HR1.out.below hb
  clear HR1 C hcx1 hcx2 hBx hb
  cases is with
  | true =>
    have HD1 := Lib.hid (HD.out.trans (if_pos (.inl rfl)))
    go_wp2
    go_ret
    exact ⟨_, rfl, by rw [HD1.out]; exact hr1, .inl ⟨rfl, HD1.out⟩, hB1⟩
  | false =>
  by_cases h32 : p.length ≠ 32
  · have HD1 := Lib.hid (HD.out.trans (if_pos (.inr h32)))
    have hq' : ((p.length : Int) != 32) = true := by rw [bne_iff_ne]; omega
    clear h32
    go_wp2
    go_ret
    exact ⟨_, rfl, by rw [HD1.out]; exact hr1, .inl ⟨rfl, HD1.out⟩, hB1⟩
  have HD4 := Lib.hid (HD.out.trans (if_neg (fun h => h.elim (fun h => by cases h) h32)))
  have hq' : ((p.length : Int) != 32) = false := by rw [bne_eq_false_iff_eq]; omega
  clear h32 HD
  go_wp2
  go_loopw [7, 8, 9] (fun v dn i wr => ∃ (k : Nat) (out : List Snp), k ≤ l.length ∧ i = .int .i64 k ∧ Below (w.heap.size + 1) w1 wr ∧ wr.ownsRow (w.heap.size + 1) 61 2 v out.length (out.flatMap snpC) ∧ out.length ≤ k + 1 ∧
      ((dn = .bool false ∧ out = l.take k ∧ ∀ y ∈ l.take k, ¬ p < y.1) ∨ (dn = .bool true ∧ insR l (p, q) = out ++ l.drop k))) (fun _ _ i _ => l.length - (intOf i).toNat)
  case atStart => exact ⟨0, [], Nat.zero_le _, rfl, Below.refl _ _, World.ownsRow_nil _ _ _ _, by simp, .inl ⟨rfl, rfl, by simp⟩⟩
  case round =>
    obtain ⟨k, out, hk, rfl, hBR, hown, hol, hst⟩ := hrel
    have hsz := hBR.size
    by_cases h1 : k < l.length
    · have hx := HX.out
      rcases hx with hx | ⟨b, o, rfl, hx⟩
      · exfalso; rw [hx] at h1; simp at h1
      obtain ⟨hy1, hy2⟩ := snp_cells hx h1
      have hBW : Below w.heap.size w wr := hB1.trans (hBR.mono (by omega))
      have hc1 := cell_below hBW hy1
      have hc2 := cell_below hBW hy2
      have hpp1 := (hBR.cell (p := ⟨w.heap.size, 0, none⟩) (by simp)).trans hp1
      have hpp2 := (hBR.cell (p := ⟨w.heap.size, 1, none⟩) (by simp)).trans hp2
      have HTK := Lib.hid (List.take_succ_eq_append_getElem h1)
      have HDK := Lib.hid (List.drop_eq_getElem_cons h1)
      have HW := Lib.hid (fun ha hn => ins_wait (x := (p, q)) h1 ha hn)
      have HN := Lib.hid (fun ha hn => ins_now (x := (p, q)) h1 ha hn)
      have HY1 := Lib.hid hy1
      have HY2 := Lib.hid hy2
      clear hx hy1 hy2
      generalize l[k] = y at *
      obtain ⟨yp, yq⟩ := y
      have h1' : (k : Int) < (l.length : Int) := by omega
      rcases hst with ⟨rfl, hout, hall⟩ | ⟨rfl, hins⟩
      · have hol' : out.length ≤ k := by rw [hout, List.length_take]; omega
        have HO := Lib.hid hout
        have HALL := Lib.hid hall
        clear hout hall
        rcases Classical.em (p < yp) with hlt | hge
        · have hbl : Op.bytesLess yp p = false := by rw [bytesLess_eq]; simpa using List.le_of_lt hlt
          have hpe : (yp == p) = false := by rw [beq_eq_false_iff_ne]; rintro rfl; exact List.lt_irrefl _ hlt
          have HN' := Lib.hid (HN.out HALL.out hlt)
          clear hlt
          go_wp2
          go_quiet (fail)
          go_wp2_with (at_builtin; refine wpList_append_own _ rfl _ _ 22 rfl (w.heap.size + 1) 61 i0 (.agg #[.string ⟨#[]⟩, .string ⟨#[]⟩]) 2 32 Tryz.underlying22 hi hz0 hz1 hz2 rfl (by decide) _ _ _ rfl ((show World.ownsRow (wr.drewN _) _ _ _ _ _ _ from hown).alloc _) ⟨wr.heap.size, 0, none⟩ 1 1 [S p, S q] rfl rfl (new_cells _ _ _ _) (by intro u hu; simp at hu; rcases hu with rfl | rfl <;> rfl) (by unfold maxLen; omega) (by omega) (by simp; omega) ?_)
          intro v' w2 hown' hgrow _
          have hB2 : Below (w.heap.size + 1) w1 w2 := ((belowN hBR _).alloc (by simpa using Nat.le_trans hs1 hsz) _).grown hgrow (by simp; omega) (fun j hj => (hown.lt j hj).1)
          have hsz2 := hB2.size
          have hBW2 : Below w.heap.size w w2 := hB1.trans (hB2.mono (by omega))
          have hc1 := cell_below hBW2 HY1.out
          have hc2 := cell_below hBW2 HY2.out
          clear hgrow hown hBR hc1 hc2 hpp1 hpp2
          have hc1 := cell_below hBW2 HY1.out
          have hc2 := cell_below hBW2 HY2.out
          go_wp2_with (at_builtin; refine wpList_append_own _ rfl _ _ 22 rfl (w.heap.size + 1) 61 i0 (.agg #[.string ⟨#[]⟩, .string ⟨#[]⟩]) 2 32 Tryz.underlying22 hi hz0 hz1 hz2 rfl (by decide) _ _ _ rfl (hown'.alloc _) ⟨w2.heap.size, 0, none⟩ 1 1 [S yp, S yq] rfl rfl (new_cells _ _ _ _) (by intro u hu; simp at hu; rcases hu with rfl | rfl <;> rfl) (by unfold maxLen; omega) (by omega) (by simp; omega) ?_)
          intro v3 w3 hown3 hgrow _
          have hB3 : Below (w.heap.size + 1) w1 w3 := (hB2.alloc (by omega) _).grown hgrow (by simp; omega) (fun j hj => (hown'.lt j hj).1)
          clear hgrow hown' hc1 hc2
          go_wp2
          go_roundw
          case rel =>
            refine ⟨k + 1, out ++ [(p, q)] ++ [(yp, yq)], by omega, by go_num, hB3, by simpa using hown3, by simp; omega, .inr ⟨rfl, ?_⟩⟩
            rw [HN'.out, HDK.out, HO.out]
            simp
          case measure => simp [intOf]; omega
        · have HW' := Lib.hid (HW.out HALL.out hge)
          have hcase : (Op.bytesLess yp p = true ∧ (yp == p) = false) ∨ (Op.bytesLess yp p = false ∧ (yp == p) = true) := by
            rw [bytesLess_eq]
            rcases lt_or_eq_or_gt yp p with h | h | h
            · exact .inl ⟨by simpa using h, by rw [beq_eq_false_iff_ne]; rintro rfl; exact List.lt_irrefl _ h⟩
            · exact .inr ⟨by rw [h]; simp, by rw [beq_iff_eq]; exact h⟩
            · exact absurd h hge
          clear hge
          rcases hcase with ⟨hbl, hpe⟩ | ⟨hbl, hpe⟩
          all_goals
            go_wp2
            go_quiet (fail)
            go_wp2_with (at_builtin; refine wpList_append_own _ rfl _ _ 22 rfl (w.heap.size + 1) 61 i0 (.agg #[.string ⟨#[]⟩, .string ⟨#[]⟩]) 2 32 Tryz.underlying22 hi hz0 hz1 hz2 rfl (by decide) _ _ _ rfl ((show World.ownsRow (wr.drewN _) _ _ _ _ _ _ from hown).alloc _) ⟨wr.heap.size, 0, none⟩ 1 1 [S yp, S yq] rfl rfl (new_cells _ _ _ _) (by intro u hu; simp at hu; rcases hu with rfl | rfl <;> rfl) (by unfold maxLen; omega) (by omega) (by simp; omega) ?_)
            intro v' w2 hown' hgrow _
            have hB2 : Below (w.heap.size + 1) w1 w2 := ((belowN hBR _).alloc (by simpa using Nat.le_trans hs1 hsz) _).grown hgrow (by simp; omega) (fun j hj => (hown.lt j hj).1)
            clear hgrow hown hBR hc1 hc2 hpp1 hpp2
            go_wp2
            go_roundw
            case rel =>
              refine ⟨k + 1, out ++ [(yp, yq)], by omega, by go_num, hB2, by simpa using hown', by simp; omega, .inl ⟨rfl, ?_, HW'.out⟩⟩
              rw [HTK.out, HO.out]
            case measure => simp [intOf]; omega
      · have HI := Lib.hid hins
        clear hins
        go_wp2
        go_quiet (fail)
        go_wp2_with (at_builtin; refine wpList_append_own _ rfl _ _ 22 rfl (w.heap.size + 1) 61 i0 (.agg #[.string ⟨#[]⟩, .string ⟨#[]⟩]) 2 32 Tryz.underlying22 hi hz0 hz1 hz2 rfl (by decide) _ _ _ rfl ((show World.ownsRow (wr.drewN _) _ _ _ _ _ _ from hown).alloc _) ⟨wr.heap.size, 0, none⟩ 1 1 [S yp, S yq] rfl rfl (new_cells _ _ _ _) (by intro u hu; simp at hu; rcases hu with rfl | rfl <;> rfl) (by unfold maxLen; omega) (by omega) (by simp; omega) ?_)
        intro v' w2 hown' hgrow _
        have hB2 : Below (w.heap.size + 1) w1 w2 := ((belowN hBR _).alloc (by simpa using Nat.le_trans hs1 hsz) _).grown hgrow (by simp; omega) (fun j hj => (hown.lt j hj).1)
        clear hgrow hown hBR hc1 hc2 hpp1 hpp2
        go_wp2
        go_roundw
        case rel =>
          refine ⟨k + 1, out ++ [(yp, yq)], by omega, by go_num, hB2, by simpa using hown', by simp; omega, .inr ⟨rfl, ?_⟩⟩
          rw [HI.out, HDK.out]
          simp
        case measure => simp [intOf]; omega
    · have h1' : ¬ (k : Int) < (l.length : Int) := by omega
      have hpp1 := (hBR.cell (p := ⟨w.heap.size, 0, none⟩) (by simp)).trans hp1
      have hpp2 := (hBR.cell (p := ⟨w.heap.size, 1, none⟩) (by simp)).trans hp2
      rcases hst with ⟨rfl, hout, hall⟩ | ⟨rfl, hins⟩
      · have HE := Lib.hid (show insR l (p, q) = out ++ [(p, q)] by
          rw [List.take_of_length_le (by omega)] at hout hall
          rw [hout]; exact ins_end hall)
        clear hout hall
        go_wp2_with (at_builtin; refine wpList_append_own _ rfl _ _ 22 rfl (w.heap.size + 1) 61 i0 (.agg #[.string ⟨#[]⟩, .string ⟨#[]⟩]) 2 32 Tryz.underlying22 hi hz0 hz1 hz2 rfl (by decide) _ _ _ rfl (hown.alloc _) ⟨wr.heap.size, 0, none⟩ 1 1 [S p, S q] rfl rfl (new_cells _ _ _ _) (by intro u hu; simp at hu; rcases hu with rfl | rfl <;> rfl) (by unfold maxLen; omega) (by omega) (by simp; omega) ?_)
        intro v' w2 hown' hgrow _
        have hB2 : Below (w.heap.size + 1) w1 w2 := (hBR.alloc (by omega) _).grown hgrow (by simp; omega) (fun j hj => (hown.lt j hj).1)
        have HR := Lib.hid (Row.of_owns (xs := out ++ [(p, q)]) (by simpa using hown'))
        have HRO := Lib.hid (show w2.ownsRow (w.heap.size + 1) 61 2 v' (out ++ [(p, q)]).length ((out ++ [(p, q)]).flatMap snpC) by simpa using hown')
        clear hgrow hown hBR hpp1 hpp2 hown'
        go_wp2
        go_ret
        exact ⟨_, rfl, by rw [HD4.out, HE.out]; exact HR.out, .inr (by rw [HD4.out, HE.out]; exact own_base HRO.out (by omega)), hB1.trans (hB2.mono (by omega))⟩
      · have HE := Lib.hid (show insR l (p, q) = out by rw [hins, List.drop_eq_nil_of_le (by omega), List.append_nil])
        have HR := Lib.hid (Row.of_owns hown)
        have HRO := Lib.hid hown
        clear hins
        go_wp2
        go_ret
        exact ⟨_, rfl, by rw [HD4.out, HE.out]; exact HR.out, .inr (by rw [HD4.out, HE.out]; exact own_base HRO.out (by omega)), hB1.trans (hBR.mono (by omega))⟩
theorem r12add_walk (v : Value) (l : List Snp) (x : Snp) (w : World) (hr : SnpRow w v l) (hcnt : l.length ≤ 1100000) :
    Calls Tryz.prog 46 #[v, SnpV x] w fun e w' => ∃ v', e = .returned v' ∧ SnpRow w' v' (addO l x) ∧ Below w.heap.size w w' :=
  (r12add2_walk v l x w hr hcnt).mono fun _ _ ⟨v', h1, h2, _, h3⟩ => ⟨v', h1, h2, h3⟩
end Go.Proofs.YtaompdnnkfmjhaaGreatDoor

namespace Go.Proofs.YtaompdnnkfmjhaaGreatDoor
open Go.RowKit

set_option maxHeartbeats 4000000 in
set_option maxRecDepth 100000 in
theorem rput12b_walk (lv vp ve : Value) (l : List Snp) (n : Nod) (w : World) (hl : SnpRow w lv l) (hr : NodRow w n vp ve) (hcnt : l.length ≤ 1000000) (hd : n.data.length ≤ 1100000) (hp : n.parts.length ≤ 1100000) (he : n.ents.length ≤ 1100000) (hnl : ∀ e ∈ n.ents, e.1.length ≤ 1100000) :
    Calls Tryz.prog 72 #[lv, NodV n vp ve] w fun e w' => ∃ v', e = .returned (.tuple #[v', S (keyN n)]) ∧ SnpRow w' v' (addO l (keyN n, writeN n)) ∧ OGot w w' lv l v' (addO l (keyN n, writeN n)) ∧ Below w.heap.size w w' := by
  have HL := Lib.hid hl
  obtain ⟨la, lc, rfl, -⟩ := hl
  obtain ⟨pa, pc, rfl⟩ := row_slice hr.parts
  obtain ⟨ua, uc, rfl⟩ := row_slice hr.ents
  obtain ⟨w1, hw1, hb1, hz⟩ : ∃ w1, w1 = w.alloc (.cells #[.int .i64 n.kind, S n.data, .slice pa n.parts.length pc, .slice ua n.ents.length uc] 36) ∧ Below w.heap.size w w1 ∧ w1.heap[w.heap.size]? = some (.cells #[.int .i64 n.kind, S n.data, .slice pa n.parts.length pc, .slice ua n.ents.length uc] 36 (0, 0)) :=
    ⟨_, rfl, (Below.refl _ _).alloc (Nat.le_refl _) _, heap_alloc_new _ _⟩
  have CK := rkey11_walk (.slice pa n.parts.length pc) (.slice ua n.ents.length uc) n w1 (hr.below hb1) hd hp he hnl
  have CW := fun W h => rwrite11_walk (.slice pa n.parts.length pc) (.slice ua n.ents.length uc) n W h hd hp he hnl
  have HR1 := Lib.hid (hr.below hb1)
  have HB1 := Lib.hid hb1
  have HZ := Lib.hid hz
  have CA := fun (kn wn : List UInt8) (W : World) h => r12add2_walk (.slice la l.length lc) l (kn, wn) W h (by omega)
  generalize keyN n = kn at *
  generalize writeN n = wn at *
  obtain ⟨⟨z0, z1, z2, z3⟩, -, -⟩ := box4 hz
  clear hr hb1 hz
  go_enter Tryz.func72, Tryz.ntmps72
  go_upto_region 1 with fail
  rw [← hw1]
  clear hw1
  go_wp2_with fail
  refine CK.mono ?_
  rintro e w2 ⟨rfl, hb2⟩
  have CW2 := CW w2 (HR1.out.below hb2)
  obtain ⟨⟨y0, y1, y2, y3⟩, -, -⟩ := box4 ((hb2.block _ (heap_lt HZ.out)).trans HZ.out)
  have HB2 := Lib.hid (below_chain HB1.out hb2 HB1.out.size)
  clear CK CW z0 z1 z2 z3 hb2
  go_wp2_with fail
  refine CW2.mono ?_
  rintro e w3 ⟨rfl, hb3⟩
  have HB3 := Lib.hid (below_chain HB2.out hb3 HB2.out.size)
  have CA3 := CA kn wn w3 (HL.out.below HB3.out)
  clear CW2 CA hb3 y0 y1 y2 y3
  go_wp2_with fail
  refine CA3.mono ?_
  rintro e w4 ⟨v4, rfl, hr4, hg4, hb4⟩
  have HR4 := Lib.hid hr4
  have HG4 := Lib.hid (show OGot w w4 (.slice la l.length lc) l v4 (addO l (kn, wn)) from hg4.imp id fun h => own_base h HB3.out.size)
  have HB4 := Lib.hid (below_chain HB3.out hb4 HB3.out.size)
  clear CA3 hr4 hb4 hg4
  go_wp2
  go_ret2
  exact ⟨_, rfl, HR4.out, HG4.out, HB4.out⟩
theorem rput12_walk (lv vp ve : Value) (l : List Snp) (n : Nod) (w : World) (hl : SnpRow w lv l) (hr : NodRow w n vp ve) (hcnt : l.length ≤ 1000000) (hd : n.data.length ≤ 1100000) (hp : n.parts.length ≤ 1100000) (he : n.ents.length ≤ 1100000) (hnl : ∀ e ∈ n.ents, e.1.length ≤ 1100000) :
    Calls Tryz.prog 72 #[lv, NodV n vp ve] w fun e w' => ∃ v', e = .returned (.tuple #[v', S (keyN n)]) ∧ SnpRow w' v' (addO l (keyN n, writeN n)) ∧ Below w.heap.size w w' :=
  (rput12b_walk lv vp ve l n w hl hr hcnt hd hp he hnl).mono fun _ _ ⟨v', h1, h2, _, h3⟩ => ⟨v', h1, h2, h3⟩
theorem OGot.row {w w' : World} {lv v' : Value} {l o : List Snp} (h : OGot w w' lv l v' o) (hr : SnpRow w lv l) (hb : Below w.heap.size w w') : SnpRow w' v' o := by
  rcases h with ⟨rfl, rfl⟩ | h
  · exact hr.below hb
  · exact Row.of_owns h
theorem OGot.refl (w : World) (lv : Value) (l : List Snp) : OGot w w lv l lv l := .inl ⟨rfl, rfl⟩
theorem OGot.below {w w' w2 : World} {lv v' : Value} {l o : List Snp} (h : OGot w w' lv l v' o) (hb : Below w'.heap.size w' w2) : OGot w w2 lv l v' o := h.imp id fun h => own_on h hb
theorem OGot.trans {w w1 w2 : World} {lv v1 v2 : Value} {l l1 l2 : List Snp} (h : OGot w w1 lv l v1 l1) (hg : OGot w1 w2 v1 l1 v2 l2) (hb : Below w1.heap.size w1 w2) (hs : w.heap.size ≤ w1.heap.size) : OGot w w2 lv l v2 l2 := by
  rcases hg with ⟨rfl, rfl⟩ | hg
  · exact h.below hb
  · exact .inr (own_base hg hs)
/-- A block of another type may turn. -/
theorem own_type {w w' : World} {b e e' K n g : Nat} {v : Value} {xs : List Value} {cs : Array Value} (h : w.ownsRow b e K v n xs) (hg : w.heap[g]? = some (.cells cs e' (0, 0))) (hne : e ≠ e') (hw : ∀ k, k ≠ g → k < w.heap.size → w'.heap[k]? = w.heap[k]?) : w'.ownsRow b e K v n xs :=
  ⟨h.1, h.2.imp id fun ⟨j, cap, cur, h1, h2, h3, h4⟩ => ⟨j, cap, cur, h1, h2, (hw j (by rintro rfl; rw [hg] at h3; cases h3; exact hne rfl) (heap_lt h3)).trans h3, h4⟩⟩
theorem OGot.type {w w1 w2 : World} {lv v1 : Value} {l l1 : List Snp} {g e : Nat} {cs : Array Value} (h : OGot w w1 lv l v1 l1) (hg : w1.heap[g]? = some (.cells cs e (0, 0))) (hne : 61 ≠ e) (hw : ∀ k, k ≠ g → k < w1.heap.size → w2.heap[k]? = w1.heap[k]?) : OGot w w2 lv l v1 l1 :=
  h.imp id fun h => own_type h hg hne hw
end Go.Proofs.YtaompdnnkfmjhaaGreatDoor
