/- The reference's Key. Objects, and one more: plain. The reference's Add of objects. -/
import Derived.Test.YtocommjoncchpaaGreatDoorJKeyNP
import Derived.Test.YtocommjoncchpaaGreatDoorR11c
import Derived.Test.YtocommjoncchpaaGreatDoorRSha4
import Derived.Test.YtocommjoncchpaaGreatDoorJRowG
import Derived.Test.YtocommjoncchpaaGreatDoorJSorted
import Derived.Test.YtocommjoncchpaaGreatDoorJDiskPlain
import Derived.Deep.Cut
import Derived.Deep.RegionWith
import Derived.Sort.Walk0
namespace Go.Proofs.YtocommjoncchpaaGreatDoor
open Go.RowKit

set_option maxHeartbeats 8000000 in
set_option maxRecDepth 100000 in
theorem rkey11_walk (vp ve : Value) (n : Nod) (w : World) (hr : NodRow w n vp ve) (hd : n.data.length ≤ 1100000) (hp : n.parts.length ≤ 1100000) (he : n.ents.length ≤ 1100000) (hnl : ∀ e ∈ n.ents, e.1.length ≤ 1100000) :
    Calls Tryz.prog 62 #[NodV n vp ve] w fun e w' => e = .returned (S (keyN n)) ∧ Below w.heap.size w w' := by
  obtain ⟨w1, hw1, hB1, hz⟩ : ∃ w1, w1 = w.alloc (.cells #[.int .i64 n.kind, S n.data, vp, ve] 68) ∧ Below w.heap.size w w1 ∧ w1.heap[w.heap.size]? = some (.cells #[.int .i64 n.kind, S n.data, vp, ve] 68 (0, 0)) :=
    ⟨_, rfl, (Below.refl _ _).alloc (Nat.le_refl _) _, heap_alloc_new _ _⟩
  have hr1 := hr.below hB1
  have CF := rfit11_walk vp ve n w1 hr1 hd hp he hnl
  have CW := fun W h => rwrite11_walk vp ve n W h hd hp he hnl
  have hwl := writeN_len (n := n)
  have HR1 := Lib.hid hr1
  have HK := Lib.hid (show keyN n = if fitN n = true then shaF (writeN n) else [] from rfl)
  obtain ⟨⟨z0, z1, z2, z3⟩, -, -⟩ := box4 hz
  generalize keyN n = kn at *
  generalize writeN n = wn at *
  clear hr hr1
  go_enter Tryz.func62, Tryz.ntmps62
  go_upto_region 1 with fail
  rw [← hw1]
  clear hw1
  go_wp2_with fail
  refine CF.mono ?_
  rintro e w2 ⟨rfl, hb2⟩
  have hz2 := (hb2.block _ (heap_lt hz)).trans hz
  have hB2 := below_chain hB1 hb2 hB1.size
  have CW2 := CW w2 (HR1.out.below hb2)
  obtain ⟨⟨y0, y1, y2, y3⟩, -, -⟩ := box4 hz2
  clear CF CW hz hB1 HR1 hb2 z0 z1 z2 z3 hz2
  cases hfb : fitN n with
  | false =>
    have hk := HK.out
    rw [hfb, if_neg (by simp)] at hk
    have HK2 := Lib.hid hk
    clear hk hfb HK
    go_wp2
    go_ret
    exact ⟨by rw [HK2.out]; rfl, hB2⟩
  | true =>
    have hk := HK.out
    rw [hfb, if_pos rfl] at hk
    have HK2 := Lib.hid hk
    have CS := fun W => rsha_walk wn W (by omega)
    clear hk hfb HK
    go_wp2_with fail
    refine CW2.mono ?_
    rintro e w3 ⟨rfl, hb3⟩
    have HB3 := Lib.hid (below_chain hB2 hb3 hB2.size)
    clear CW2 hb3 hB2
    go_wp2_with fail
    refine (CS w3).mono ?_
    rintro e w4 ⟨rfl, hb4⟩
    have HB4 := Lib.hid (below_chain HB3.out hb4 HB3.out.size)
    clear hb4
    go_wp2
    go_ret
    exact ⟨by rw [HK2.out]; rfl, HB4.out⟩
end Go.Proofs.YtocommjoncchpaaGreatDoor

namespace Go.Proofs.YtocommjoncchpaaGreatDoor

def addO (l : List Snp) (x : Snp) : List Snp := if (findR l x.1).isSome = true ∨ x.1.length ≠ 32 then l else insR l x
theorem findR_is {l : List Snp} {n : List UInt8} (hu : upS (namesR l)) : (findR l n).isSome = decide (n ∈ namesR l) := by
  by_cases hin : n ∈ namesR l
  · obtain ⟨_, hf⟩ := findR_pos hu hin
    rw [hf]; simp [hin]
  · rw [findR_none hin]; simp [hin]
theorem names_ins {l : List Snp} {x : Snp} (hu : upS (namesR l)) (hx : x.1 ∉ namesR l) : namesR (insR l x) = addL (namesR l) x.1 := by
  have h2 := withK_up (key := (id : List UInt8 → List UInt8)) (l := namesR l) (f := x.1) (by simpa using hu)
  rw [insR_pos hx]
  unfold addL
  rw [if_neg hx, h2]
  simp only [List.map_id, id]
  rw [if_neg hx]
  simp [namesR, List.map_take, List.map_drop]
theorem insO_len {l : List Snp} {x : Snp} (hx : x.1 ∉ namesR l) : (insR l x).length = l.length + 1 := by
  have h := posL_le (namesR l) x.1
  rw [namesR_len] at h
  rw [insR_pos hx]; simp; omega
theorem addO_len (l : List Snp) (x : Snp) : (addO l x).length ≤ l.length + 1 := by
  unfold addO
  split
  · omega
  · rw [show (insR l x).length = l.length + 1 from by
      unfold insR
      have := congrArg List.length (List.takeWhile_append_dropWhile (p := fun y => !decide (x.1 < y.1)) (l := l))
      rw [List.length_append] at this
      simp only [List.length_append, List.length_cons]; omega]
    exact Nat.le_refl _
theorem mem_insO {l : List Snp} {x y : Snp} : y ∈ insR l x ↔ y = x ∨ y ∈ l := by
  unfold insR
  rw [List.mem_append, List.mem_cons]
  have h : y ∈ l ↔ y ∈ l.takeWhile (fun y => !decide (x.1 < y.1)) ∨ y ∈ l.dropWhile (fun y => !decide (x.1 < y.1)) := by
    rw [← List.mem_append, List.takeWhile_append_dropWhile]
  rw [h]
  constructor
  · rintro (h1 | h1 | h1)
    · exact .inr (.inl h1)
    · exact .inl h1
    · exact .inr (.inr h1)
  · rintro (h1 | h1 | h1)
    · exact .inr (.inl h1)
    · exact .inl h1
    · exact .inr (.inr h1)
theorem upN_of12 : ∀ {l : List (List UInt8)}, upS l → upN l = true
  | [], _ => rfl
  | [_], _ => rfl
  | a :: b :: t, h => by
    unfold upN
    unfold upS at h
    rw [Bool.and_eq_true, decide_eq_true_eq]
    exact ⟨(List.pairwise_cons.1 h).1 b (by simp), upN_of12 (l := b :: t) (List.pairwise_cons.1 h).2⟩
theorem fit5_up12 {m : List (List UInt8)} (h : fit5 m = true) : upS m := by
  unfold fit5 at h
  rw [Bool.and_eq_true] at h
  exact upN_pairs _ h.2
theorem fit5_len12 {l : List (List UInt8)} (h : fit5 l = true) : ∀ x ∈ l, x.length = 32 := by
  unfold fit5 at h
  rw [Bool.and_eq_true, List.all_eq_true] at h
  intro x hx
  simpa using h.1 x hx
theorem addO_fit {l : List Snp} {x : Snp} (h : fit5 (namesR l) = true) : fit5 (namesR (addO l x)) = true := by
  unfold addO
  split
  · exact h
  · rename_i hc
    have hu := fit5_up12 h
    have hx : x.1 ∉ namesR l := fun hin => hc (.inl (by rw [findR_is hu]; simpa using hin))
    have h32 : x.1.length = 32 := Classical.byContradiction fun h => hc (.inr h)
    rw [names_ins hu hx]
    refine fit5_all (fun y hy => ?_) (upN_of12 (addL_up hu))
    rcases addL_mem.1 hy with rfl | hy
    · exact h32
    · exact fit5_len12 h y hy
theorem find_mem : ∀ {l : List Snp}, upS (namesR l) → ∀ y ∈ l, findR l y.1 = some y.2
  | z :: t, hu, y, hy => by
    unfold namesR upS at hu
    rw [List.map_cons, List.pairwise_cons] at hu
    unfold findR
    by_cases h : z.1 = y.1
    · rcases List.mem_cons.1 hy with rfl | hy
      · rw [List.find?_cons_of_pos (by simp)]; rfl
      · exact absurd (hu.1 y.1 (List.mem_map.2 ⟨y, hy, rfl⟩)) (by rw [h]; exact List.lt_irrefl _)
    · rcases List.mem_cons.1 hy with rfl | hy
      · exact absurd rfl h
      · have ih := find_mem (l := t) hu.2 y hy
        unfold findR at ih
        rw [List.find?_cons_of_neg (by simpa using h)]; exact ih
/-- What was added is found, and all that was there. -/
theorem addO_finds {l : List Snp} {x : Snp} (hu : upS (namesR l)) (hx : x.1 ∉ namesR l) : findR (insR l x) x.1 = some x.2 ∧ ∀ y ∈ l, findR (insR l x) y.1 = some y.2 := by
  have h := addL_up (k := x.1) hu
  rw [← names_ins hu hx] at h
  exact ⟨find_mem h x (mem_insO.2 (.inl rfl)), fun y hy => find_mem h y (mem_insO.2 (.inr hy))⟩
end Go.Proofs.YtocommjoncchpaaGreatDoor

namespace Go.Proofs.YtocommjoncchpaaGreatDoor
open Go.RowKit

theorem infoObj : (Tryz.prog.info? 38).map (fun i => (i.zero, i.size, i.bytes)) = some (some (.agg #[.string ⟨#[]⟩, .string ⟨#[]⟩]), 2, 32) := by kernel_rfl

set_option maxHeartbeats 4000000 in
set_option maxRecDepth 100000 in
theorem r12add_walk (v : Value) (l : List Snp) (x : Snp) (w : World) (hr : SnpRow w v l) (hcnt : l.length ≤ 1100000) :
    Calls Tryz.prog 63 #[v, SnpV x] w fun e w' => ∃ v', e = .returned v' ∧ SnpRow w' v' (addO l x) ∧ Below w.heap.size w w' := by
  obtain ⟨p, q⟩ := x
  have hr1 := hr.below ((Below.refl w.heap.size w).alloc (Nat.le_refl _) (.cells #[S p, S q] 38))
  have C := rget_walk v l p _ hr1 hcnt
  have HD := Lib.hid (show addO l (p, q) = if (findR l p).isSome = true ∨ p.length ≠ 32 then l else insR l (p, q) from rfl)
  generalize rootOf (findR l p) = fr at *
  generalize (findR l p).isSome = is at *
  generalize addO l (p, q) = de at *
  have HR1 := Lib.hid hr1
  obtain ⟨a, c, rfl, hc, hm, hx⟩ := hr
  have HX := Lib.hid hx
  clear hx hr1
  obtain ⟨i0, hi, hz0, hz1, hz2⟩ := info_parts infoObj
  have hBx : Below w.heap.size w (w.alloc (.cells #[S p, S q] 38)) := (Below.refl _ _).alloc (Nat.le_refl _) _
  have hcx1 : (w.alloc (.cells #[S p, S q] 38)).cell? ⟨w.heap.size, 0, none⟩ = some (S p) := by rw [World.cell?_alloc_at _ _ _ _ rfl]; rfl
  have hcx2 : (w.alloc (.cells #[S p, S q] 38)).cell? ⟨w.heap.size, 1, none⟩ = some (S q) := by rw [World.cell?_alloc_at _ _ _ _ rfl]; rfl
  go_enter Tryz.func63, Tryz.ntmps63
  go_wp2_with fail
  refine C.mono ?_
  rintro e w1 ⟨rfl, hb⟩
  have hp1 := cell_below hb hcx1
  have hp2 := cell_below hb hcx2
  have hB1 : Below w.heap.size w w1 := below_chain hBx hb (by simp)
  have hs1 : w.heap.size + 1 ≤ w1.heap.size := by have := hb.size; simpa using this
  have hr1 := HR1.out.below hb
  clear HR1 C hcx1 hcx2 hBx hb
  cases is with
  | true =>
    have HD1 := Lib.hid (HD.out.trans (if_pos (.inl rfl)))
    go_wp2
    go_ret
    exact ⟨_, rfl, by rw [HD1.out]; exact hr1, hB1⟩
  | false =>
  by_cases h32 : p.length ≠ 32
  · have HD1 := Lib.hid (HD.out.trans (if_pos (.inr h32)))
    have hq' : ((p.length : Int) != 32) = true := by rw [bne_iff_ne]; omega
    clear h32
    go_wp2
    go_ret
    exact ⟨_, rfl, by rw [HD1.out]; exact hr1, hB1⟩
  have HD4 := Lib.hid (HD.out.trans (if_neg (fun h => h.elim (fun h => by cases h) h32)))
  have hq' : ((p.length : Int) != 32) = false := by rw [bne_eq_false_iff_eq]; omega
  clear h32 HD
  go_wp2
  go_loopw [7, 8, 9] (fun v dn i wr => ∃ (k : Nat) (out : List Snp), k ≤ l.length ∧ i = .int .i64 k ∧ Below (w.heap.size + 1) w1 wr ∧ wr.ownsRow (w.heap.size + 1) 38 2 v out.length (out.flatMap snpC) ∧ out.length ≤ k + 1 ∧
      ((dn = .bool false ∧ out = l.take k ∧ ∀ y ∈ l.take k, ¬ p < y.1) ∨ (dn = .bool true ∧ insR l (p, q) = out ++ l.drop k))) (fun _ _ i _ => l.length - (intOf i).toNat)
  case atStart => exact ⟨0, [], Nat.zero_le _, rfl, Below.refl _ _, World.ownsRow_nil _ _ _ _, by simp, .inl ⟨rfl, rfl, by simp⟩⟩
  case round =>
    obtain ⟨k, out, hk, rfl, hBR, hown, hol, hst⟩ := hrel
    have hsz := hBR.size
    by_cases h1 : k < l.length
    · have hx := HX.out
      rcases hx with hx | ⟨b, o, rfl, hx⟩
      · exfalso; rw [hx] at h1; simp at h1
      obtain ⟨hy1, hy2⟩ := snp_cells hx h1
      have hBW : Below w.heap.size w wr := hB1.trans (hBR.mono (by omega))
      have hc1 := cell_below hBW hy1
      have hc2 := cell_below hBW hy2
      have hpp1 := (hBR.cell (p := ⟨w.heap.size, 0, none⟩) (by simp)).trans hp1
      have hpp2 := (hBR.cell (p := ⟨w.heap.size, 1, none⟩) (by simp)).trans hp2
      have HTK := Lib.hid (List.take_succ_eq_append_getElem h1)
      have HDK := Lib.hid (List.drop_eq_getElem_cons h1)
      have HW := Lib.hid (fun ha hn => ins_wait (x := (p, q)) h1 ha hn)
      have HN := Lib.hid (fun ha hn => ins_now (x := (p, q)) h1 ha hn)
      have HY1 := Lib.hid hy1
      have HY2 := Lib.hid hy2
      clear hx hy1 hy2
      generalize l[k] = y at *
      obtain ⟨yp, yq⟩ := y
      have h1' : (k : Int) < (l.length : Int) := by omega
      rcases hst with ⟨rfl, hout, hall⟩ | ⟨rfl, hins⟩
      · have hol' : out.length ≤ k := by rw [hout, List.length_take]; omega
        have HO := Lib.hid hout
        have HALL := Lib.hid hall
        clear hout hall
        rcases Classical.em (p < yp) with hlt | hge
        · have hbl : Op.bytesLess yp p = false := by rw [bytesLess_eq]; simpa using List.le_of_lt hlt
          have hpe : (yp == p) = false := by rw [beq_eq_false_iff_ne]; rintro rfl; exact List.lt_irrefl _ hlt
          have HN' := Lib.hid (HN.out HALL.out hlt)
          clear hlt
          go_wp2
          go_quiet (fail)
          go_wp2_with (at_builtin; refine wpList_append_own _ rfl _ _ 22 rfl (w.heap.size + 1) 38 i0 (.agg #[.string ⟨#[]⟩, .string ⟨#[]⟩]) 2 32 Tryz.underlying22 hi hz0 hz1 hz2 rfl (by decide) _ _ _ rfl ((show World.ownsRow (wr.drewN _) _ _ _ _ _ _ from hown).alloc _) ⟨wr.heap.size, 0, none⟩ 1 1 [S p, S q] rfl rfl (new_cells _ _ _ _) (by intro u hu; simp at hu; rcases hu with rfl | rfl <;> rfl) (by unfold maxLen; omega) (by omega) (by simp; omega) ?_)
          intro v' w2 hown' hgrow _
          have hB2 : Below (w.heap.size + 1) w1 w2 := ((belowN hBR _).alloc (by simpa using Nat.le_trans hs1 hsz) _).grown hgrow (by simp; omega) (fun j hj => (hown.lt j hj).1)
          have hsz2 := hB2.size
          have hBW2 : Below w.heap.size w w2 := hB1.trans (hB2.mono (by omega))
          have hc1 := cell_below hBW2 HY1.out
          have hc2 := cell_below hBW2 HY2.out
          clear hgrow hown hBR hc1 hc2 hpp1 hpp2
          have hc1 := cell_below hBW2 HY1.out
          have hc2 := cell_below hBW2 HY2.out
          go_wp2_with (at_builtin; refine wpList_append_own _ rfl _ _ 22 rfl (w.heap.size + 1) 38 i0 (.agg #[.string ⟨#[]⟩, .string ⟨#[]⟩]) 2 32 Tryz.underlying22 hi hz0 hz1 hz2 rfl (by decide) _ _ _ rfl (hown'.alloc _) ⟨w2.heap.size, 0, none⟩ 1 1 [S yp, S yq] rfl rfl (new_cells _ _ _ _) (by intro u hu; simp at hu; rcases hu with rfl | rfl <;> rfl) (by unfold maxLen; omega) (by omega) (by simp; omega) ?_)
          intro v3 w3 hown3 hgrow _
          have hB3 : Below (w.heap.size + 1) w1 w3 := (hB2.alloc (by omega) _).grown hgrow (by simp; omega) (fun j hj => (hown'.lt j hj).1)
          clear hgrow hown' hc1 hc2
          go_wp2
          go_roundw
          case rel =>
            refine ⟨k + 1, out ++ [(p, q)] ++ [(yp, yq)], by omega, by go_num, hB3, by simpa using hown3, by simp; omega, .inr ⟨rfl, ?_⟩⟩
            rw [HN'.out, HDK.out, HO.out]
            simp
          case measure => simp [intOf]; omega
        · have HW' := Lib.hid (HW.out HALL.out hge)
          have hcase : (Op.bytesLess yp p = true ∧ (yp == p) = false) ∨ (Op.bytesLess yp p = false ∧ (yp == p) = true) := by
            rw [bytesLess_eq]
            rcases lt_or_eq_or_gt yp p with h | h | h
            · exact .inl ⟨by simpa using h, by rw [beq_eq_false_iff_ne]; rintro rfl; exact List.lt_irrefl _ h⟩
            · exact .inr ⟨by rw [h]; simp, by rw [beq_iff_eq]; exact h⟩
            · exact absurd h hge
          clear hge
          rcases hcase with ⟨hbl, hpe⟩ | ⟨hbl, hpe⟩
          all_goals
            go_wp2
            go_quiet (fail)
            go_wp2_with (at_builtin; refine wpList_append_own _ rfl _ _ 22 rfl (w.heap.size + 1) 38 i0 (.agg #[.string ⟨#[]⟩, .string ⟨#[]⟩]) 2 32 Tryz.underlying22 hi hz0 hz1 hz2 rfl (by decide) _ _ _ rfl ((show World.ownsRow (wr.drewN _) _ _ _ _ _ _ from hown).alloc _) ⟨wr.heap.size, 0, none⟩ 1 1 [S yp, S yq] rfl rfl (new_cells _ _ _ _) (by intro u hu; simp at hu; rcases hu with rfl | rfl <;> rfl) (by unfold maxLen; omega) (by omega) (by simp; omega) ?_)
            intro v' w2 hown' hgrow _
            have hB2 : Below (w.heap.size + 1) w1 w2 := ((belowN hBR _).alloc (by simpa using Nat.le_trans hs1 hsz) _).grown hgrow (by simp; omega) (fun j hj => (hown.lt j hj).1)
            clear hgrow hown hBR hc1 hc2 hpp1 hpp2
            go_wp2
            go_roundw
            case rel =>
              refine ⟨k + 1, out ++ [(yp, yq)], by omega, by go_num, hB2, by simpa using hown', by simp; omega, .inl ⟨rfl, ?_, HW'.out⟩⟩
              rw [HTK.out, HO.out]
            case measure => simp [intOf]; omega
      · have HI := Lib.hid hins
        clear hins
        go_wp2
        go_quiet (fail)
        go_wp2_with (at_builtin; refine wpList_append_own _ rfl _ _ 22 rfl (w.heap.size + 1) 38 i0 (.agg #[.string ⟨#[]⟩, .string ⟨#[]⟩]) 2 32 Tryz.underlying22 hi hz0 hz1 hz2 rfl (by decide) _ _ _ rfl ((show World.ownsRow (wr.drewN _) _ _ _ _ _ _ from hown).alloc _) ⟨wr.heap.size, 0, none⟩ 1 1 [S yp, S yq] rfl rfl (new_cells _ _ _ _) (by intro u hu; simp at hu; rcases hu with rfl | rfl <;> rfl) (by unfold maxLen; omega) (by omega) (by simp; omega) ?_)
        intro v' w2 hown' hgrow _
        have hB2 : Below (w.heap.size + 1) w1 w2 := ((belowN hBR _).alloc (by simpa using Nat.le_trans hs1 hsz) _).grown hgrow (by simp; omega) (fun j hj => (hown.lt j hj).1)
        clear hgrow hown hBR hc1 hc2 hpp1 hpp2
        go_wp2
        go_roundw
        case rel =>
          refine ⟨k + 1, out ++ [(yp, yq)], by omega, by go_num, hB2, by simpa using hown', by simp; omega, .inr ⟨rfl, ?_⟩⟩
          rw [HI.out, HDK.out]
          simp
        case measure => simp [intOf]; omega
    · have h1' : ¬ (k : Int) < (l.length : Int) := by omega
      have hpp1 := (hBR.cell (p := ⟨w.heap.size, 0, none⟩) (by simp)).trans hp1
      have hpp2 := (hBR.cell (p := ⟨w.heap.size, 1, none⟩) (by simp)).trans hp2
      rcases hst with ⟨rfl, hout, hall⟩ | ⟨rfl, hins⟩
      · have HE := Lib.hid (show insR l (p, q) = out ++ [(p, q)] by
          rw [List.take_of_length_le (by omega)] at hout hall
          rw [hout]; exact ins_end hall)
        clear hout hall
        go_wp2_with (at_builtin; refine wpList_append_own _ rfl _ _ 22 rfl (w.heap.size + 1) 38 i0 (.agg #[.string ⟨#[]⟩, .string ⟨#[]⟩]) 2 32 Tryz.underlying22 hi hz0 hz1 hz2 rfl (by decide) _ _ _ rfl (hown.alloc _) ⟨wr.heap.size, 0, none⟩ 1 1 [S p, S q] rfl rfl (new_cells _ _ _ _) (by intro u hu; simp at hu; rcases hu with rfl | rfl <;> rfl) (by unfold maxLen; omega) (by omega) (by simp; omega) ?_)
        intro v' w2 hown' hgrow _
        have hB2 : Below (w.heap.size + 1) w1 w2 := (hBR.alloc (by omega) _).grown hgrow (by simp; omega) (fun j hj => (hown.lt j hj).1)
        have HR := Lib.hid (Row.of_owns (xs := out ++ [(p, q)]) (by simpa using hown'))
        clear hgrow hown hBR hpp1 hpp2 hown'
        go_wp2
        go_ret
        exact ⟨_, rfl, by rw [HD4.out, HE.out]; exact HR.out, hB1.trans (hB2.mono (by omega))⟩
      · have HE := Lib.hid (show insR l (p, q) = out by rw [hins, List.drop_eq_nil_of_le (by omega), List.append_nil])
        have HR := Lib.hid (Row.of_owns hown)
        clear hins
        go_wp2
        go_ret
        exact ⟨_, rfl, by rw [HD4.out, HE.out]; exact HR.out, hB1.trans (hBR.mono (by omega))⟩
end Go.Proofs.YtocommjoncchpaaGreatDoor
