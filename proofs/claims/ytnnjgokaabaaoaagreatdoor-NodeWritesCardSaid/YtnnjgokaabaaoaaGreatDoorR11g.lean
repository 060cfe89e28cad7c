/- The reference's Same of two nodes. -/
import Derived.Test.YtnnjgokaabaaoaaGreatDoorNodeB
import Derived.Test.YtnnjgokaabaaoaaGreatDoorJTail
import Derived.BigQuiet
namespace Go.Proofs.YtnnjgokaabaaoaaGreatDoor
open Go.RowKit

noncomputable def sameN (a b : Nod) : Bool := @decide (a = b) (Classical.propDecidable _)
theorem sameN_yes {a b : Nod} (h : a = b) : sameN a b = true := @decide_eq_true _ (Classical.propDecidable _) h
theorem sameN_no {a b : Nod} (h : a ≠ b) : sameN a b = false := @decide_eq_false _ (Classical.propDecidable _) h
theorem take_snoc_eq {α : Type} {l m : List α} {k : Nat} (h1 : k < l.length) (h2 : k < m.length) (h : l.take k = m.take k) (he : l[k] = m[k]) : l.take (k + 1) = m.take (k + 1) := by
  rw [List.take_succ_eq_append_getElem h1, List.take_succ_eq_append_getElem h2, h, he]
theorem at_ne {α : Type} {l m : List α} {k : Nat} (h1 : k < l.length) (h2 : k < m.length) (h : l[k] ≠ m[k]) : l ≠ m := by
  intro e; subst e; exact h rfl
theorem prt_ne {p1 p2 : List UInt8} {d1 d2 : Int} (h : ((p1, d1) : Prt) ≠ (p2, d2)) : ((p1 == p2) = false) ∨ ((p1 == p2) = true ∧ (d1 == d2) = false) := by
  by_cases h1 : p1 = p2
  · by_cases h2 : d1 = d2
    · exact absurd (by rw [h1, h2]) h
    · exact .inr ⟨by simpa using h1, by simpa using h2⟩
  · exact .inl (by simpa using h1)
theorem ent_ne {p1 p2 t1 t2 : List UInt8} {d1 d2 : Int} {e1 e2 : Bool} (h : ((p1, d1, e1, t1) : Ent) ≠ (p2, d2, e2, t2)) :
    ((p1 == p2) = false) ∨ ((p1 == p2) = true ∧ (d1 == d2) = false) ∨ ((p1 == p2) = true ∧ (d1 == d2) = true ∧ (e1 == e2) = false) ∨ ((p1 == p2) = true ∧ (d1 == d2) = true ∧ (e1 == e2) = true ∧ (t1 == t2) = false) := by
  by_cases h1 : p1 = p2
  · by_cases h2 : d1 = d2
    · by_cases h3 : e1 = e2
      · by_cases h4 : t1 = t2
        · exact absurd (by rw [h1, h2, h3, h4]) h
        · exact .inr (.inr (.inr ⟨by simpa using h1, by simpa using h2, by simpa using h3, by simpa using h4⟩))
      · exact .inr (.inr (.inl ⟨by simpa using h1, by simpa using h2, by simpa using h3⟩))
    · exact .inr (.inl ⟨by simpa using h1, by simpa using h2⟩)
  · exact .inl (by simpa using h1)

set_option maxHeartbeats 4000000 in
set_option maxRecDepth 100000 in
theorem rsame11_walk (vp ve vp2 ve2 : Value) (n m : Nod) (w : World) (hr : NodRow w n vp ve) (hr2 : NodRow w m vp2 ve2) (hp : n.parts.length ≤ 1100000) (he : n.ents.length ≤ 1100000) (hp2 : m.parts.length ≤ 1100000) (he2 : m.ents.length ≤ 1100000) :
    Calls Tryz.prog 12 #[NodV n vp ve, NodV m vp2 ve2] w fun e w' => e = .returned (.bool (sameN n m)) ∧ Below w.heap.size w w' := by
  have HF := Lib.hid (fun (h : n ≠ m) => sameN_no h)
  have HG := Lib.hid (fun (h : n = m) => sameN_yes h)
  generalize sameN n m = res at *
  obtain ⟨kd, d, ps, es⟩ := n
  obtain ⟨kd2, d2, ps2, es2⟩ := m
  simp only at hp he hp2 he2
  obtain ⟨⟨pa, pc, rfl, hc1, hm1, hx1⟩, ⟨ea, ec, rfl, hc2, hm2, hx2⟩⟩ := hr
  obtain ⟨⟨pa2, pc2, rfl, hc3, hm3, hy1⟩, ⟨ea2, ec2, rfl, hc4, hm4, hy2⟩⟩ := hr2
  have HX1 := Lib.hid hx1
  have HX2 := Lib.hid hx2
  have HY1 := Lib.hid hy1
  have HY2 := Lib.hid hy2
  simp only at hc1 hm1 hc2 hm2 hc3 hm3 hc4 hm4
  clear hx1 hx2 hy1 hy2
  obtain ⟨w1, hw1, hb1, hz1⟩ : ∃ w1, w1 = w.alloc (.cells #[.int .i64 kd, S d, .slice pa ps.length pc, .slice ea es.length ec] 25) ∧ Below w.heap.size w w1 ∧ w1.heap[w.heap.size]? = some (.cells #[.int .i64 kd, S d, .slice pa ps.length pc, .slice ea es.length ec] 25 (0, 0)) :=
    ⟨_, rfl, (Below.refl _ _).alloc (Nat.le_refl _) _, heap_alloc_new _ _⟩
  obtain ⟨w2, hw2, hb2, hz2, hxz⟩ : ∃ w2, w2 = w1.alloc (.cells #[.int .i64 kd2, S d2, .slice pa2 ps2.length pc2, .slice ea2 es2.length ec2] 25) ∧ Below w.heap.size w w2 ∧ w2.heap[w1.heap.size]? = some (.cells #[.int .i64 kd2, S d2, .slice pa2 ps2.length pc2, .slice ea2 es2.length ec2] 25 (0, 0)) ∧ w2.heap[w.heap.size]? = some (.cells #[.int .i64 kd, S d, .slice pa ps.length pc, .slice ea es.length ec] 25 (0, 0)) :=
    ⟨_, rfl, hb1.alloc hb1.size _, heap_alloc_new _ _, (((Below.refl _ _).alloc (Nat.le_refl _) _).block _ (heap_lt hz1)).trans hz1⟩
  have hsz : w1.heap.size = w.heap.size + 1 := by rw [hw1]; simp
  rw [hsz] at hz2
  clear hsz
  have HB0 := Lib.hid hb2
  have HS2 := Lib.hid hb2.size
  have HLX := Lib.hid (heap_lt hxz)
  have HLY := Lib.hid (heap_lt hz2)
  have HXB := Lib.hid hxz
  have HYB := Lib.hid hz2
  obtain ⟨⟨z0, z1, z2, z3⟩, -, -⟩ := box4 hxz
  obtain ⟨⟨y0, y1, y2, y3⟩, -, -⟩ := box4 hz2
  clear hb1 hz1 hb2 hz2 hxz
  by_cases g : kd = kd2
  case neg =>
    have gg : (kd != kd2) = true := by rw [bne_iff_ne]; exact g
    have gg' : (kd == kd2) = false := by rw [beq_eq_false_iff_ne]; exact g
    have HR := Lib.hid (HF.out (fun e => g (congrArg Nod.kind e)))
    clear g
    go_enter Tryz.func12, Tryz.ntmps12
    go_upto_region 1 with fail
    rw [← hw1]
    rw [← hw2]
    clear hw1 hw2
    go_wp2
    go_ret
    exact ⟨by rw [HR.out]; rfl, HB0.out⟩
  have HK := Lib.hid g
  have gk : (kd != kd2) = false := by rw [g]; simp
  have gk' : (kd == kd2) = true := by rw [g]; simp
  clear g
  by_cases g : d = d2
  case neg =>
    have gg : (d != d2) = true := by rw [bne_iff_ne]; exact g
    have gg' : (d == d2) = false := by rw [beq_eq_false_iff_ne]; exact g
    have HR := Lib.hid (HF.out (fun e => g (congrArg Nod.data e)))
    clear g
    go_enter Tryz.func12, Tryz.ntmps12
    go_upto_region 1 with fail
    rw [← hw1]
    rw [← hw2]
    clear hw1 hw2
    go_wp2
    go_ret
    exact ⟨by rw [HR.out]; rfl, HB0.out⟩
  have HD := Lib.hid g
  have gd : (d != d2) = false := by rw [g]; simp
  have gd' : (d == d2) = true := by rw [g]; simp
  clear g
  by_cases g : ps.length = ps2.length
  case neg =>
    have gg : ((ps.length : Int) != (ps2.length : Int)) = true := by rw [bne_iff_ne]; omega
    have gg' : ((ps.length : Int) == (ps2.length : Int)) = false := by rw [beq_eq_false_iff_ne]; omega
    have HR := Lib.hid (HF.out (fun e => g (congrArg (fun q => q.parts.length) e)))
    clear g
    go_enter Tryz.func12, Tryz.ntmps12
    go_upto_region 1 with fail
    rw [← hw1]
    rw [← hw2]
    clear hw1 hw2
    go_wp2
    go_ret
    exact ⟨by rw [HR.out]; rfl, HB0.out⟩
  have HLP := Lib.hid g
  have gp : ((ps.length : Int) != (ps2.length : Int)) = false := by rw [g]; simp
  clear g
  by_cases g : es.length = es2.length
  case neg =>
    have gg : ((es.length : Int) != (es2.length : Int)) = true := by rw [bne_iff_ne]; omega
    have gg' : ((es.length : Int) == (es2.length : Int)) = false := by rw [beq_eq_false_iff_ne]; omega
    have HR := Lib.hid (HF.out (fun e => g (congrArg (fun q => q.ents.length) e)))
    clear g
    go_enter Tryz.func12, Tryz.ntmps12
    go_upto_region 1 with fail
    rw [← hw1]
    rw [← hw2]
    clear hw1 hw2
    go_wp2
    go_ret
    exact ⟨by rw [HR.out]; rfl, HB0.out⟩
  have HLE := Lib.hid g
  have ge : ((es.length : Int) != (es2.length : Int)) = false := by rw [g]; simp
  clear g
  go_enter Tryz.func12, Tryz.ntmps12
  go_upto_region 1 with fail
  rw [← hw1]
  rw [← hw2]
  clear hw1 hw2
  go_wp2
  clear z0 z1 z2 z3 y0 y1 y2 y3
  go_loopw [5] (fun i wr => ∃ k : Nat, k ≤ ps.length ∧ i = .int .i64 k ∧ ps.take k = ps2.take k ∧ Below w2.heap.size w2 wr) (fun i _ => ps.length - (intOf i).toNat)
  case atStart => exact ⟨0, Nat.zero_le _, rfl, rfl, Below.refl _ _⟩
  case round =>
    obtain ⟨k, hk, rfl, ht, hB⟩ := hrel
    have HT := Lib.hid ht
    have HB := Lib.hid hB
    have hB0 := HB0.out
    clear ht
    obtain ⟨⟨a0, a1, a2, a3⟩, -, -⟩ := box4 ((hB.block _ HLX.out).trans HXB.out)
    obtain ⟨⟨b0, b1, b2, b3⟩, -, -⟩ := box4 ((hB.block _ HLY.out).trans HYB.out)
    by_cases h1 : k < ps.length
    · have h2 : k < ps2.length := by have := HLP.out; omega
      have h1' : (k : Int) < (ps.length : Int) := by omega
      have h2' : (k : Int) < (ps2.length : Int) := by omega
      have hx := HX1.out
      rcases hx with hx | ⟨b, o, hae, hx⟩
      · exfalso; rw [hx] at h1; simp at h1
      have hy := HY1.out
      rcases hy with hy | ⟨b', o', hae', hy⟩
      · exfalso; rw [hy] at h2; simp at h2
      obtain ⟨hx1, hx2⟩ := prt_cells hx h1
      obtain ⟨hy1, hy2⟩ := prt_cells hy h2
      have hc1 := cell_below (hB0.trans (hB.mono HS2.out)) hx1
      have hc2 := cell_below (hB0.trans (hB.mono HS2.out)) hx2
      have hd1 := cell_below (hB0.trans (hB.mono HS2.out)) hy1
      have hd2 := cell_below (hB0.trans (hB.mono HS2.out)) hy2
      have HSO := Lib.hid (fun h => take_snoc_eq h1 h2 HT.out h)
      have HDO := Lib.hid (fun h => HF.out (fun e => at_ne h1 h2 h (congrArg Nod.parts e)))
      clear hx hy hx1 hx2 hy1 hy2 hB hB0
      generalize ps[k] = y at *
      generalize ps2[k] = z at *
      obtain ⟨p1, d1⟩ := y
      obtain ⟨p2, d2⟩ := z
      simp only at hc1 hd1 hc2 hd2
      subst hae
      subst hae'
      by_cases hpq : ((p1, d1) : Prt) = (p2, d2)
      · have HSS := Lib.hid (HSO.out hpq)
        cases hpq
        go_wp2
        go_quiet (fail)
        go_wp2
        go_roundw
        case rel => exact ⟨k + 1, by omega, by go_num, HSS.out, belowN HB.out _⟩
        case measure => simp [intOf]; omega
      · have HR := Lib.hid (HDO.out hpq)
        have hcase := prt_ne hpq
        clear hpq
        rcases hcase with q1 | ⟨q1, q2⟩
        all_goals
          go_wp2
          go_quiet (fail)
          go_wp2
          go_ret
          exact ⟨by rw [HR.out]; rfl, HB0.out.trans ((belowN HB.out _).mono HS2.out)⟩
    · have h1' : ¬ (k : Int) < (ps.length : Int) := by omega
      have HPS := Lib.hid (show ps = ps2 by
        have e := HT.out
        have := HLP.out
        rw [List.take_of_length_le (by omega), List.take_of_length_le (by omega)] at e
        exact e)
      clear hB hB0
      go_wp2
      go_loopw [6] (fun i wr => ∃ k : Nat, k ≤ es.length ∧ i = .int .i64 k ∧ es.take k = es2.take k ∧ Below w2.heap.size w2 wr) (fun i _ => es.length - (intOf i).toNat)
      case atStart => exact ⟨0, Nat.zero_le _, rfl, rfl, HB.out⟩
      case round =>
        obtain ⟨k, hk, rfl, ht, hB⟩ := hrel
        have HT := Lib.hid ht
        have HB := Lib.hid hB
        have hB0 := HB0.out
        clear ht
        obtain ⟨⟨a0, a1, a2, a3⟩, -, -⟩ := box4 ((hB.block _ HLX.out).trans HXB.out)
        obtain ⟨⟨b0, b1, b2, b3⟩, -, -⟩ := box4 ((hB.block _ HLY.out).trans HYB.out)
        by_cases h1 : k < es.length
        · have h2 : k < es2.length := by have := HLE.out; omega
          have h1' : (k : Int) < (es.length : Int) := by omega
          have h2' : (k : Int) < (es2.length : Int) := by omega
          have hx := HX2.out
          rcases hx with hx | ⟨b, o, hae, hx⟩
          · exfalso; rw [hx] at h1; simp at h1
          have hy := HY2.out
          rcases hy with hy | ⟨b', o', hae', hy⟩
          · exfalso; rw [hy] at h2; simp at h2
          obtain ⟨hx1, hx2, hx3, hx4⟩ := ent_cells hx h1
          obtain ⟨hy1, hy2, hy3, hy4⟩ := ent_cells hy h2
          have hc1 := cell_below (hB0.trans (hB.mono HS2.out)) hx1
          have hc2 := cell_below (hB0.trans (hB.mono HS2.out)) hx2
          have hc3 := cell_below (hB0.trans (hB.mono HS2.out)) hx3
          have hc4 := cell_below (hB0.trans (hB.mono HS2.out)) hx4
          have hd1 := cell_below (hB0.trans (hB.mono HS2.out)) hy1
          have hd2 := cell_below (hB0.trans (hB.mono HS2.out)) hy2
          have hd3 := cell_below (hB0.trans (hB.mono HS2.out)) hy3
          have hd4 := cell_below (hB0.trans (hB.mono HS2.out)) hy4
          have HSO := Lib.hid (fun h => take_snoc_eq h1 h2 HT.out h)
          have HDO := Lib.hid (fun h => HF.out (fun e => at_ne h1 h2 h (congrArg Nod.ents e)))
          clear hx hy hx1 hx2 hx3 hx4 hy1 hy2 hy3 hy4 hB hB0
          generalize es[k] = y at *
          generalize es2[k] = z at *
          obtain ⟨p1, d1, e1, t1⟩ := y
          obtain ⟨p2, d2, e2, t2⟩ := z
          simp only at hc1 hd1 hc2 hd2 hc3 hd3 hc4 hd4
          subst hae
          subst hae'
          by_cases hpq : ((p1, d1, e1, t1) : Ent) = (p2, d2, e2, t2)
          · have HSS := Lib.hid (HSO.out hpq)
            cases hpq
            go_wp2
            go_quiet (fail)
            go_wp2
            go_roundw
            case rel => exact ⟨k + 1, by omega, by go_num, HSS.out, belowN HB.out _⟩
            case measure => simp [intOf]; omega
          · have HR := Lib.hid (HDO.out hpq)
            have hcase := ent_ne hpq
            clear hpq
            rcases hcase with q1 | ⟨q1, q2⟩ | ⟨q1, q2, q3⟩ | ⟨q1, q2, q3, q4⟩
            all_goals
              go_wp2
              go_quiet (fail)
              go_wp2
              go_ret
              exact ⟨by rw [HR.out]; rfl, HB0.out.trans ((belowN HB.out _).mono HS2.out)⟩
        · have h1' : ¬ (k : Int) < (es.length : Int) := by omega
          have HES := Lib.hid (show es = es2 by
            have e := HT.out
            have := HLE.out
            rw [List.take_of_length_le (by omega), List.take_of_length_le (by omega)] at e
            exact e)
          clear hB hB0
          have HR := Lib.hid (HG.out (by rw [HK.out, HD.out, HPS.out, HES.out]))
          go_wp2
          go_ret
          exact ⟨by rw [HR.out]; rfl, HB0.out.trans (HB.out.mono HS2.out)⟩
end Go.Proofs.YtnnjgokaabaaoaaGreatDoor
