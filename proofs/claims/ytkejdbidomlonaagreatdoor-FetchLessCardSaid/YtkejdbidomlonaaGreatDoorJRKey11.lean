/- The reference's Key. The reference's Get and Fit of objects. The reference's Add of objects. -/
import Derived.Test.YtkejdbidomlonaaGreatDoorJKeyNP
import Derived.Test.YtkejdbidomlonaaGreatDoorJR11c
import Derived.Test.YtkejdbidomlonaaGreatDoorRSha4
import Derived.Test.YtkejdbidomlonaaGreatDoorJSnpPlain
import Derived.Test.YtkejdbidomlonaaGreatDoorJKeysP
import Derived.Deep.Cut
import Derived.Deep.RegionWith
import Derived.Sort.Walk0
namespace Go.Proofs.YtkejdbidomlonaaGreatDoor
open Go.RowKit

set_option maxHeartbeats 8000000 in
set_option maxRecDepth 100000 in
theorem rkey11_walk (vp ve : Value) (n : Nod) (w : World) (hr : NodRow w n vp ve) (hd : n.data.length ≤ 1100000) (hp : n.parts.length ≤ 1100000) (he : n.ents.length ≤ 1100000) (hnl : ∀ e ∈ n.ents, e.1.length ≤ 1100000) :
    Calls Tryz.prog 51 #[NodV n vp ve] w fun e w' => e = .returned (S (keyN n)) ∧ Below w.heap.size w w' := by
  obtain ⟨w1, hw1, hB1, hz⟩ : ∃ w1, w1 = w.alloc (.cells #[.int .i64 n.kind, S n.data, vp, ve] 77) ∧ Below w.heap.size w w1 ∧ w1.heap[w.heap.size]? = some (.cells #[.int .i64 n.kind, S n.data, vp, ve] 77 (0, 0)) :=
    ⟨_, rfl, (Below.refl _ _).alloc (Nat.le_refl _) _, heap_alloc_new _ _⟩
  have hr1 := hr.below hB1
  have CF := rfit11_walk vp ve n w1 hr1 hd hp he hnl
  have CW := fun W h => rwrite11_walk vp ve n W h hd hp he hnl
  have hwl := writeN_len (n := n)
  have HR1 := Lib.hid hr1
  have HK := Lib.hid (show keyN n = if fitN n = true then shaF (writeN n) else [] from rfl)
  obtain ⟨⟨z0, z1, z2, z3⟩, -, -⟩ := box4 hz
  generalize keyN n = kn at *
  generalize writeN n = wn at *
  clear hr hr1
  go_enter Tryz.func51, Tryz.ntmps51
  go_upto_region 1 with fail
  rw [← hw1]
  clear hw1
  go_wp2_with fail
  refine CF.mono ?_
  rintro e w2 ⟨rfl, hb2⟩
  have hz2 := (hb2.block _ (heap_lt hz)).trans hz
  have hB2 := below_chain hB1 hb2 hB1.size
  have CW2 := CW w2 (HR1.out.below hb2)
  obtain ⟨⟨y0, y1, y2, y3⟩, -, -⟩ := box4 hz2
  clear CF CW hz hB1 HR1 hb2 z0 z1 z2 z3 hz2
  cases hfb : fitN n with
  | false =>
    have hk := HK.out
    rw [hfb, if_neg (by simp)] at hk
    have HK2 := Lib.hid hk
    clear hk hfb HK
    go_wp2
    go_ret
    exact ⟨by rw [HK2.out]; rfl, hB2⟩
  | true =>
    have hk := HK.out
    rw [hfb, if_pos rfl] at hk
    have HK2 := Lib.hid hk
    have CS := fun W => rsha_walk wn W (by omega)
    clear hk hfb HK
    go_wp2_with fail
    refine CW2.mono ?_
    rintro e w3 ⟨rfl, hb3⟩
    have HB3 := Lib.hid (below_chain hB2 hb3 hB2.size)
    clear CW2 hb3 hB2
    go_wp2_with fail
    refine (CS w3).mono ?_
    rintro e w4 ⟨rfl, hb4⟩
    have HB4 := Lib.hid (below_chain HB3.out hb4 HB3.out.size)
    clear hb4
    go_wp2
    go_ret
    exact ⟨by rw [HK2.out]; rfl, HB4.out⟩
end Go.Proofs.YtkejdbidomlonaaGreatDoor

namespace Go.Proofs.YtkejdbidomlonaaGreatDoor
open Go.RowKit

/-- The first texts of a row of pairs. -/
def KeyRow (w : World) (v : Value) (xs : List (List UInt8)) : Prop :=
  ∃ a c, v = .slice a xs.length c ∧ xs.length ≤ c ∧ c ≤ maxLen ∧ (xs = [] ∨ ∃ b o, a = some ⟨b, o, none⟩ ∧ ∀ j (h : j < xs.length), w.cell? ⟨b, o + j * 2, none⟩ = some (S xs[j]))
theorem KeyRow.of {w : World} {v : Value} {l : List Snp} (h : SnpRow w v l) : KeyRow w v (namesR l) := by
  obtain ⟨a, c, hv, hc, hm, hx⟩ := h
  rw [← namesR_len l] at hv hc
  refine ⟨a, c, hv, hc, hm, ?_⟩
  rcases hx with hx | ⟨b, o, ha, hx⟩
  · exact .inl (by rw [hx]; rfl)
  · refine .inr ⟨b, o, ha, fun j hj => ?_⟩
    have hj2 : j < l.length := by rwa [namesR_len] at hj
    rw [(snp_cells hx hj2).1]
    simp [namesR]

set_option maxHeartbeats 1100000 in
set_option maxRecDepth 100000 in
theorem rget_walk (v : Value) (l : List Snp) (n : List UInt8) (w : World) (hr : SnpRow w v l) (hcnt : l.length ≤ 1100000) :
    Calls Tryz.prog 25 #[v, S n] w fun e w' => e = .returned (.tuple #[S (rootOf (findR l n)), .bool (findR l n).isSome]) ∧ Below w.heap.size w w' := by
  obtain ⟨a, c, rfl, hc, hm, hx⟩ := hr
  have HX := Lib.hid hx
  clear hx
  go_enter Tryz.func25, Tryz.ntmps25
  go_wp2
  go_loopw [6] (fun i wr => ∃ k : Nat, k ≤ l.length ∧ i = .int .i64 k ∧ findR (l.take k) n = none ∧ Below w.heap.size w wr) (fun i _ => l.length - (intOf i).toNat)
  case atStart => exact ⟨0, Nat.zero_le _, rfl, rfl, Below.refl _ _⟩
  case round =>
    obtain ⟨k, hk, rfl, ht, hB⟩ := hrel
    have HT := Lib.hid ht
    have HB := Lib.hid hB
    clear ht
    by_cases h1 : k < l.length
    · have hx := HX.out
      rcases hx with hx | ⟨b, o, rfl, hx⟩
      · exfalso; rw [hx] at h1; simp at h1
      obtain ⟨hx1, hx2⟩ := snp_cells hx h1
      have hc1 := cell_below hB hx1
      have hc2 := cell_below hB hx2
      have HE := Lib.hid (fun he : l[k].1 = n => findR_at h1 he HT.out)
      have HN := Lib.hid (fun he : l[k].1 ≠ n => findR_step h1 he HT.out)
      clear hx hx1 hx2 hB
      generalize l[k] = y at *
      obtain ⟨p, q⟩ := y
      have h1' : (k : Int) < (l.length : Int) := by omega
      by_cases hpn : p = n
      · subst hpn
        have HS := Lib.hid (HE.out rfl)
        have hpp : (p == p) = true := by simp
        go_wp2
        go_ret2
        exact ⟨by rw [HS.out]; rfl, HB.out⟩
      · have HS := Lib.hid (HN.out hpn)
        have hpp : (p == n) = false := by rw [beq_eq_false_iff_ne]; exact hpn
        go_wp2
        go_roundw
        case rel => exact ⟨k + 1, by omega, by go_num, HS.out, HB.out⟩
        case measure => simp [intOf]; omega
    · have h1' : ¬ (k : Int) < (l.length : Int) := by omega
      have HK := Lib.hid (show findR l n = none by rw [← HT.out, List.take_of_length_le (by omega)])
      go_wp2
      go_ret2
      exact ⟨by rw [HK.out]; rfl, HB.out⟩


set_option maxHeartbeats 4000000 in
set_option maxRecDepth 100000 in
theorem rfitk_walk (v : Value) (xs : List (List UInt8)) (w : World) (hr : KeyRow w v xs) (hcnt : xs.length ≤ 1100000) :
    Calls Tryz.prog 28 #[v] w fun e w' => e = .returned (.bool (fit5 xs)) ∧ Below w.heap.size w w' := by
  obtain ⟨a, c, rfl, hc, hm, hx⟩ := hr
  have HX := Lib.hid hx
  have HBAD := Lib.hid (fun k h => fit5_bad (l := xs) (k := k) h)
  have HDWN := Lib.hid (fun j h => fit5_down (l := xs) (j := j) h)
  have HALLF := Lib.hid (fun h1 h2 => fit5_all (l := xs) h1 h2)
  generalize fit5 xs = res at *
  clear hx
  go_enter Tryz.func28, Tryz.ntmps28
  go_wp2
  go_loopw [3] (fun i wr => ∃ k : Nat, k ≤ xs.length ∧ i = .int .i64 k ∧ (∀ x ∈ xs.take k, x.length = 32) ∧ upN (xs.take k) = true ∧ Below w.heap.size w wr) (fun i _ => xs.length - (intOf i).toNat)
  case atStart => exact ⟨0, Nat.zero_le _, rfl, by simp, rfl, Below.refl _ _⟩
  case round =>
    obtain ⟨k, hk, rfl, ha, hu, hB⟩ := hrel
    have HA := Lib.hid ha
    have HU := Lib.hid hu
    clear ha hu
    by_cases h1 : k < xs.length
    · have h1' : (k : Int) < (xs.length : Int) := by omega
      have hx := HX.out
      rcases hx with hx | ⟨b, o, rfl, hx⟩
      · exfalso; rw [hx] at h1; simp at h1
      have hc1 := cell_below hB (hx _ h1)
      have HB1 := Lib.hid (HBAD.out k h1)
      have HA1 := Lib.hid (all32_step h1 HA.out)
      by_cases hz : k = 0
      · subst hz
        have HU1 := Lib.hid (fit5_one xs)
        simp only [Nat.zero_mul, Nat.add_zero] at hc1
        have hz0 : ((0 : Nat) : Int) = 0 := rfl
        clear hx
        generalize xs[0] = y at *
        by_cases hl : y.length = 32
        · have hl' : ((y.length : Int) != 32) = false := by rw [bne_eq_false_iff_eq]; omega
          have HS := Lib.hid (HA1.out hl)
          clear hl
          go_wp2
          go_quiet (fail)
          go_wp2
          go_roundw
          case rel => exact ⟨1, by omega, by go_num, HS.out, HU1.out, belowN hB _⟩
          case measure => simp [intOf]; omega
        · have hl' : ((y.length : Int) != 32) = true := by rw [bne_iff_ne]; omega
          have HR := Lib.hid (HB1.out hl)
          clear hl
          go_wp2
          go_quiet (fail)
          go_wp2
          go_ret
          exact ⟨by rw [HR.out]; rfl, belowN hB _⟩
      · obtain ⟨j, rfl⟩ : ∃ j, k = j + 1 := ⟨k - 1, by omega⟩
        have hj : j < xs.length := by omega
        have hc2 := cell_below hB (hx _ hj)
        have HD := Lib.hid (HDWN.out j h1)
        have HUS := Lib.hid (upN_step h1)
        have hwr : IntKind.i64.wrap (j : Int) = (j : Int) := by rw [IntKind.wrap_i64]; omega
        have hpos : (0 : Int) < ((j + 1 : Nat) : Int) := by omega
        have hj' : (j : Int) < (xs.length : Int) := by omega
        clear hx hz
        generalize xs[j + 1] = y at *
        generalize xs[j] = y0 at *
        by_cases hl : y.length = 32
        · have hl' : ((y.length : Int) != 32) = false := by rw [bne_eq_false_iff_eq]; omega
          have HS := Lib.hid (HA1.out hl)
          clear hl
          have hcase : (y0 < y ∧ Op.bytesLess y0 y = true) ∨ (¬ y0 < y ∧ Op.bytesLess y0 y = false) := by
            rw [bytesLess_eq]
            by_cases h : y0 < y
            · exact .inl ⟨h, by simpa using h⟩
            · exact .inr ⟨h, by simpa using h⟩
          rcases hcase with ⟨hlt, hbl⟩ | ⟨hlt, hbl⟩
          · have HU2 := Lib.hid (show upN (xs.take (j + 2)) = true by rw [HUS.out, HU.out]; simp [hlt])
            clear hlt
            go_wp2
            go_quiet (fail)
            go_wp2
            go_roundw
            case rel => exact ⟨j + 2, by omega, by go_num, HS.out, HU2.out, belowN hB _⟩
            case measure => simp [intOf]; omega
          · have HR := Lib.hid (HD.out hlt)
            clear hlt
            go_wp2
            go_quiet (fail)
            go_wp2
            go_ret
            exact ⟨by rw [HR.out]; rfl, belowN hB _⟩
        · have hl' : ((y.length : Int) != 32) = true := by rw [bne_iff_ne]; omega
          have HR := Lib.hid (HB1.out hl)
          clear hl
          go_wp2
          go_quiet (fail)
          go_wp2
          go_ret
          exact ⟨by rw [HR.out]; rfl, belowN hB _⟩
    · have h1' : ¬ (k : Int) < (xs.length : Int) := by omega
      have HR := Lib.hid (HALLF.out (by have e := HA.out; rwa [List.take_of_length_le (by omega)] at e) (by have e := HU.out; rwa [List.take_of_length_le (by omega)] at e))
      go_wp2
      go_ret
      exact ⟨by rw [HR.out]; rfl, hB⟩

theorem rfitO_walk (v : Value) (l : List Snp) (w : World) (hr : SnpRow w v l) (hcnt : l.length ≤ 1100000) :
    Calls Tryz.prog 28 #[v] w fun e w' => e = .returned (.bool (fit5 (namesR l))) ∧ Below w.heap.size w w' :=
  rfitk_walk v (namesR l) w (KeyRow.of hr) (by rw [namesR_len]; exact hcnt)
end Go.Proofs.YtkejdbidomlonaaGreatDoor

namespace Go.Proofs.YtkejdbidomlonaaGreatDoor
open Go.RowKit

theorem infoObj : (Tryz.prog.info? 27).map (fun i => (i.zero, i.size, i.bytes)) = some (some (.agg #[.string ⟨#[]⟩, .string ⟨#[]⟩]), 2, 32) := by kernel_rfl

/-- What a call that adds hands back: the row that it was given, or one of its own. -/
def OGot (w w' : World) (lv : Value) (l : List Snp) (v' : Value) (l' : List Snp) : Prop := (v' = lv ∧ l' = l) ∨ w'.ownsRow w.heap.size 27 2 v' l'.length (l'.flatMap snpC)

set_option maxHeartbeats 4000000 in
set_option maxRecDepth 100000 in
theorem r12add2_walk (v : Value) (l : List Snp) (x : Snp) (w : World) (hr : SnpRow w v l) (hcnt : l.length ≤ 1100000) :
    Calls Tryz.prog 10 #[v, SnpV x] w fun e w' => ∃ v', e = .returned v' ∧ SnpRow w' v' (addO l x) ∧ OGot w w' v l v' (addO l x) ∧ Below w.heap.size w w' := by
  obtain ⟨p, q⟩ := x
  have hr1 := hr.below ((Below.refl w.heap.size w).alloc (Nat.le_refl _) (.cells #[S p, S q] 27))
  have C := rget_walk v l p _ hr1 hcnt
  have HD := Lib.hid (show addO l (p, q) = if (findR l p).isSome = true ∨ p.length ≠ 32 then l else insR l (p, q) from rfl)
  generalize rootOf (findR l p) = fr at *
  generalize (findR l p).isSome = is at *
  generalize addO l (p, q) = de at *
  have HR1 := Lib.hid hr1
  obtain ⟨a, c, rfl, hc, hm, hx⟩ := hr
  have HX := Lib.hid hx
  clear hx hr1
  obtain ⟨i0, hi, hz0, hz1, hz2⟩ := info_parts infoObj
  have hBx : Below w.heap.size w (w.alloc (.cells #[S p, S q] 27)) := (Below.refl _ _).alloc (Nat.le_refl _) _
  have hcx1 : (w.alloc (.cells #[S p, S q] 27)).cell? ⟨w.heap.size, 0, none⟩ = some (S p) := by rw [World.cell?_alloc_at _ _ _ _ rfl]; rfl
  have hcx2 : (w.alloc (.cells #[S p, S q] 27)).cell? ⟨w.heap.size, 1, none⟩ = some (S q) := by rw [World.cell?_alloc_at _ _ _ _ rfl]; rfl
  go_enter Tryz.func10, Tryz.ntmps10
  go_wp2_with fail
  refine C.mono ?_
  rintro e w1 ⟨rfl, hb⟩
  have hp1 := cell_below hb hcx1
  have hp2 := cell_below hb hcx2
  have hB1 : Below w.heap.size w w1 := below_chain hBx hb (by simp)
  have hs1 : w.heap.size + 1 ≤ w1.heap.size := by have := hb.size; simpa using this
  have hr1 := HR1.out.below hb
  clear HR1 C hcx1 hcx2 hBx hb
  cases is with
  | true =>
    have HD1 := Lib.hid (HD.out.trans (if_pos (.inl rfl)))
    go_wp2
    go_ret
    exact ⟨_, rfl, by rw [HD1.out]; exact hr1, .inl ⟨rfl, HD1.out⟩, hB1⟩
  | false =>
  by_cases h32 : p.length ≠ 32
  · have HD1 := Lib.hid (HD.out.trans (if_pos (.inr h32)))
    have hq' : ((p.length : Int) != 32) = true := by rw [bne_iff_ne]; omega
    clear h32
    go_wp2
    go_ret
    exact ⟨_, rfl, by rw [HD1.out]; exact hr1, .inl ⟨rfl, HD1.out⟩, hB1⟩
  have HD4 := Lib.hid (HD.out.trans (if_neg (fun h => h.elim (fun h => by cases h) h32)))
  have hq' : ((p.length : Int) != 32) = false := by rw [bne_eq_false_iff_eq]; omega
  clear h32 HD
  go_wp2
  go_loopw [7, 8, 9] (fun v dn i wr => ∃ (k : Nat) (out : List Snp), k ≤ l.length ∧ i = .int .i64 k ∧ Below (w.heap.size + 1) w1 wr ∧ wr.ownsRow (w.heap.size + 1) 27 2 v out.length (out.flatMap snpC) ∧ out.length ≤ k + 1 ∧
      ((dn = .bool false ∧ out = l.take k ∧ ∀ y ∈ l.take k, ¬ p < y.1) ∨ (dn = .bool true ∧ insR l (p, q) = out ++ l.drop k))) (fun _ _ i _ => l.length - (intOf i).toNat)
  case atStart => exact ⟨0, [], Nat.zero_le _, rfl, Below.refl _ _, World.ownsRow_nil _ _ _ _, by simp, .inl ⟨rfl, rfl, by simp⟩⟩
  case round =>
    obtain ⟨k, out, hk, rfl, hBR, hown, hol, hst⟩ := hrel
    have hsz := hBR.size
    by_cases h1 : k < l.length
    · have hx := HX.out
      rcases hx with hx | ⟨b, o, rfl, hx⟩
      · exfalso; rw [hx] at h1; simp at h1
      obtain ⟨hy1, hy2⟩ := snp_cells hx h1
      have hBW : Below w.heap.size w wr := hB1.trans (hBR.mono (by omega))
      have hc1 := cell_below hBW hy1
      have hc2 := cell_below hBW hy2
      have hpp1 := (hBR.cell (p := ⟨w.heap.size, 0, none⟩) (by simp)).trans hp1
      have hpp2 := (hBR.cell (p := ⟨w.heap.size, 1, none⟩) (by simp)).trans hp2
      have HTK := Lib.hid (List.take_succ_eq_append_getElem h1)
      have HDK := Lib.hid (List.drop_eq_getElem_cons h1)
      have HW := Lib.hid (fun ha hn => ins_wait (x := (p, q)) h1 ha hn)
      have HN := Lib.hid (fun ha hn => ins_now (x := (p, q)) h1 ha hn)
      have HY1 := Lib.hid hy1
      have HY2 := Lib.hid hy2
      clear hx hy1 hy2
      generalize l[k] = y at *
      obtain ⟨yp, yq⟩ := y
      have h1' : (k : Int) < (l.length : Int) := by omega
      rcases hst with ⟨rfl, hout, hall⟩ | ⟨rfl, hins⟩
      · have hol' : out.length ≤ k := by rw [hout, List.length_take]; omega
        have HO := Lib.hid hout
        have HALL := Lib.hid hall
        clear hout hall
        rcases Classical.em (p < yp) with hlt | hge
        · have hbl : Op.bytesLess yp p = false := by rw [bytesLess_eq]; simpa using List.le_of_lt hlt
          have hpe : (yp == p) = false := by rw [beq_eq_false_iff_ne]; rintro rfl; exact List.lt_irrefl _ hlt
          have HN' := Lib.hid (HN.out HALL.out hlt)
          clear hlt
          go_wp2
          go_quiet (fail)
          go_wp2_with (at_builtin; refine wpList_append_own _ rfl _ _ 30 rfl (w.heap.size + 1) 27 i0 (.agg #[.string ⟨#[]⟩, .string ⟨#[]⟩]) 2 32 Tryz.underlying30 hi hz0 hz1 hz2 rfl (by decide) _ _ _ rfl ((show World.ownsRow (wr.drewN _) _ _ _ _ _ _ from hown).alloc _) ⟨wr.heap.size, 0, none⟩ 1 1 [S p, S q] rfl rfl (new_cells _ _ _ _) (by intro u hu; simp at hu; rcases hu with rfl | rfl <;> rfl) (by unfold maxLen; omega) (by omega) (by simp; omega) ?_)
          intro v' w2 hown' hgrow _
          have hB2 : Below (w.heap.size + 1) w1 w2 := ((belowN hBR _).alloc (by simpa using Nat.le_trans hs1 hsz) _).grown hgrow (by simp; omega) (fun j hj => (hown.lt j hj).1)
          have hsz2 := hB2.size
          have hBW2 : Below w.heap.size w w2 := hB1.trans (hB2.mono (by omega))
          have hc1 := cell_below hBW2 HY1.out
          have hc2 := cell_below hBW2 HY2.out
          clear hgrow hown hBR hc1 hc2 hpp1 hpp2
          have hc1 := cell_below hBW2 HY1.out
          have hc2 := cell_below hBW2 HY2.out
          go_wp2_with (at_builtin; refine wpList_append_own _ rfl _ _ 30 rfl (w.heap.size + 1) 27 i0 (.agg #[.string ⟨#[]⟩, .string ⟨#[]⟩]) 2 32 Tryz.underlying30 hi hz0 hz1 hz2 rfl (by decide) _ _ _ rfl (hown'.alloc _) ⟨w2.heap.size, 0, none⟩ 1 1 [S yp, S yq] rfl rfl (new_cells _ _ _ _) (by intro u hu; simp at hu; rcases hu with rfl | rfl <;> rfl) (by unfold maxLen; omega) (by omega) (by simp; omega) ?_)
          intro v3 w3 hown3 hgrow _
          have hB3 : Below (w.heap.size + 1) w1 w3 := (hB2.alloc (by omega) _).grown hgrow (by simp; omega) (fun j hj => (hown'.lt j hj).1)
          clear hgrow hown' hc1 hc2
          go_wp2
          go_roundw
          case rel =>
            refine ⟨k + 1, out ++ [(p, q)] ++ [(yp, yq)], by omega, by go_num, hB3, by simpa using hown3, by simp; omega, .inr ⟨rfl, ?_⟩⟩
            rw [HN'.out, HDK.out, HO.out]
            simp
          case measure => simp [intOf]; omega
        · have HW' := Lib.hid (HW.out HALL.out hge)
          have hcase : (Op.bytesLess yp p = true ∧ (yp == p) = false) ∨ (Op.bytesLess yp p = false ∧ (yp == p) = true) := by
            rw [bytesLess_eq]
            rcases lt_or_eq_or_gt yp p with h | h | h
            · exact .inl ⟨by simpa using h, by rw [beq_eq_false_iff_ne]; rintro rfl; exact List.lt_irrefl _ h⟩
            · exact .inr ⟨by rw [h]; simp, by rw [beq_iff_eq]; exact h⟩
            · exact absurd h hge
          clear hge
          rcases hcase with ⟨hbl, hpe⟩ | ⟨hbl, hpe⟩
          all_goals
            go_wp2
            go_quiet (fail)
            go_wp2_with (at_builtin; refine wpList_append_own _ rfl _ _ 30 rfl (w.heap.size + 1) 27 i0 (.agg #[.string ⟨#[]⟩, .string ⟨#[]⟩]) 2 32 Tryz.underlying30 hi hz0 hz1 hz2 rfl (by decide) _ _ _ rfl ((show World.ownsRow (wr.drewN _) _ _ _ _ _ _ from hown).alloc _) ⟨wr.heap.size, 0, none⟩ 1 1 [S yp, S yq] rfl rfl (new_cells _ _ _ _) (by intro u hu; simp at hu; rcases hu with rfl | rfl <;> rfl) (by unfold maxLen; omega) (by omega) (by simp; omega) ?_)
            intro v' w2 hown' hgrow _
            have hB2 : Below (w.heap.size + 1) w1 w2 := ((belowN hBR _).alloc (by simpa using Nat.le_trans hs1 hsz) _).grown hgrow (by simp; omega) (fun j hj => (hown.lt j hj).1)
            clear hgrow hown hBR hc1 hc2 hpp1 hpp2
            go_wp2
            go_roundw
            case rel =>
              refine ⟨k + 1, out ++ [(yp, yq)], by omega, by go_num, hB2, by simpa using hown', by simp; omega, .inl ⟨rfl, ?_, HW'.out⟩⟩
              rw [HTK.out, HO.out]
            case measure => simp [intOf]; omega
      · have HI := Lib.hid hins
        clear hins
        go_wp2
        go_quiet (fail)
        go_wp2_with (at_builtin; refine wpList_append_own _ rfl _ _ 30 rfl (w.heap.size + 1) 27 i0 (.agg #[.string ⟨#[]⟩, .string ⟨#[]⟩]) 2 32 Tryz.underlying30 hi hz0 hz1 hz2 rfl (by decide) _ _ _ rfl ((show World.ownsRow (wr.drewN _) _ _ _ _ _ _ from hown).alloc _) ⟨wr.heap.size, 0, none⟩ 1 1 [S yp, S yq] rfl rfl (new_cells _ _ _ _) (by intro u hu; simp at hu; rcases hu with rfl | rfl <;> rfl) (by unfold maxLen; omega) (by omega) (by simp; omega) ?_)
        intro v' w2 hown' hgrow _
        have hB2 : Below (w.heap.size + 1) w1 w2 := ((belowN hBR _).alloc (by simpa using Nat.le_trans hs1 hsz) _).grown hgrow (by simp; omega) (fun j hj => (hown.lt j hj).1)
        clear hgrow hown hBR hc1 hc2 hpp1 hpp2
        go_wp2
        go_roundw
        case rel =>
          refine ⟨k + 1, out ++ [(yp, yq)], by omega, by go_num, hB2, by simpa using hown', by simp; omega, .inr ⟨rfl, ?_⟩⟩
          rw [HI.out, HDK.out]
          simp
        case measure => simp [intOf]; omega
    · have h1' : ¬ (k : Int) < (l.length : Int) := by omega
      have hpp1 := (hBR.cell (p := ⟨w.heap.size, 0, none⟩) (by simp)).trans hp1
      have hpp2 := (hBR.cell (p := ⟨w.heap.size, 1, none⟩) (by simp)).trans hp2
      rcases hst with ⟨rfl, hout, hall⟩ | ⟨rfl, hins⟩
      · have HE := Lib.hid (show insR l (p, q) = out ++ [(p, q)] by
          rw [List.take_of_length_le (by omega)] at hout hall
          rw [hout]; exact ins_end hall)
        clear hout hall
        go_wp2_with (at_builtin; refine wpList_append_own _ rfl _ _ 30 rfl (w.heap.size + 1) 27 i0 (.agg #[.string ⟨#[]⟩, .string ⟨#[]⟩]) 2 32 Tryz.underlying30 hi hz0 hz1 hz2 rfl (by decide) _ _ _ rfl (hown.alloc _) ⟨wr.heap.size, 0, none⟩ 1 1 [S p, S q] rfl rfl (new_cells _ _ _ _) (by intro u hu; simp at hu; rcases hu with rfl | rfl <;> rfl) (by unfold maxLen; omega) (by omega) (by simp; omega) ?_)
        intro v' w2 hown' hgrow _
        have hB2 : Below (w.heap.size + 1) w1 w2 := (hBR.alloc (by omega) _).grown hgrow (by simp; omega) (fun j hj => (hown.lt j hj).1)
        have HR := Lib.hid (Row.of_owns (xs := out ++ [(p, q)]) (by simpa using hown'))
        have HRO := Lib.hid (show w2.ownsRow (w.heap.size + 1) 27 2 v' (out ++ [(p, q)]).length ((out ++ [(p, q)]).flatMap snpC) by simpa using hown')
        clear hgrow hown hBR hpp1 hpp2 hown'
        go_wp2
        go_ret
        exact ⟨_, rfl, by rw [HD4.out, HE.out]; exact HR.out, .inr (by rw [HD4.out, HE.out]; exact own_base HRO.out (by omega)), hB1.trans (hB2.mono (by omega))⟩
      · have HE := Lib.hid (show insR l (p, q) = out by rw [hins, List.drop_eq_nil_of_le (by omega), List.append_nil])
        have HR := Lib.hid (Row.of_owns hown)
        have HRO := Lib.hid hown
        clear hins
        go_wp2
        go_ret
        exact ⟨_, rfl, by rw [HD4.out, HE.out]; exact HR.out, .inr (by rw [HD4.out, HE.out]; exact own_base HRO.out (by omega)), hB1.trans (hBR.mono (by omega))⟩
theorem r12add_walk (v : Value) (l : List Snp) (x : Snp) (w : World) (hr : SnpRow w v l) (hcnt : l.length ≤ 1100000) :
    Calls Tryz.prog 10 #[v, SnpV x] w fun e w' => ∃ v', e = .returned v' ∧ SnpRow w' v' (addO l x) ∧ Below w.heap.size w w' :=
  (r12add2_walk v l x w hr hcnt).mono fun _ _ ⟨v', h1, h2, _, h3⟩ => ⟨v', h1, h2, h3⟩
end Go.Proofs.YtkejdbidomlonaaGreatDoor
