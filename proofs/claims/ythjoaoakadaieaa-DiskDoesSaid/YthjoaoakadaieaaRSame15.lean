/- The reference's Same of disks. -/
import Derived.Test.YthjoaoakadaieaaRFit15b
namespace Go.Proofs.Ythjoaoakadaieaa
open Go.RowKit

instance eqLFs : DecidableEq (List LF) := fun a b => List.hasDecEq a b
instance eqLD : DecidableEq LD := @instDecidableEqProd (List LF) (Bool × Int) eqLFs inferInstance
theorem los_ne {l m : List DF} {k : Nat} (h1 : k < l.length) (h2 : k < m.length) (h : l[k].lo ≠ m[k].lo) : los l ≠ los m := by
  intro e
  have := congrArg (fun x => x[k]?) e
  simp [los, h1, h2] at this
  exact h this
theorem take_snoc_los {l m : List DF} {k : Nat} (h1 : k < l.length) (h2 : k < m.length) (h : los (l.take k) = los (m.take k)) (he : l[k].lo = m[k].lo) : los (l.take (k + 1)) = los (m.take (k + 1)) := by
  rw [List.take_succ_eq_append_getElem h1, List.take_succ_eq_append_getElem h2]
  simp only [los, List.map_append, List.map_cons, List.map_nil] at *
  rw [h, he]
theorem take_snoc_eq {α : Type} {l m : List α} {k : Nat} (h1 : k < l.length) (h2 : k < m.length) (h : l.take k = m.take k) (he : l[k] = m[k]) : l.take (k + 1) = m.take (k + 1) := by
  rw [List.take_succ_eq_append_getElem h1, List.take_succ_eq_append_getElem h2, h, he]
theorem at_ne {α : Type} {l m : List α} {k : Nat} (h1 : k < l.length) (h2 : k < m.length) (h : l[k] ≠ m[k]) : l ≠ m := by
  intro e; subst e; exact h rfl

set_option maxHeartbeats 8000000 in
set_option maxRecDepth 100000 in
theorem rsame15_walk (v v2 : Value) (off off2 : Bool) (fuse fuse2 : Int) (l m : List DF) (w : World) (hr : FilesR w v l) (hr2 : FilesR w v2 m) (hcnt : l.length ≤ 1000000) (hol : ∀ x ∈ l, x.ops.length ≤ 1000000) :
    Calls Try.prog 21 #[DiskV v off fuse, DiskV v2 off2 fuse2] w fun e w' => e = .returned (.bool (decide (((los l, off, fuse) : LD) = (los m, off2, fuse2)))) ∧ Below w.heap.size w w' := by
  have HF := Lib.hid (fun (h : ((los l, off, fuse) : LD) ≠ (los m, off2, fuse2)) => decide_eq_false h)
  have HG := Lib.hid (fun (h : ((los l, off, fuse) : LD) = (los m, off2, fuse2)) => decide_eq_true h)
  generalize decide (((los l, off, fuse) : LD) = (los m, off2, fuse2)) = res at *
  obtain ⟨⟨a, c, rfl, hc, hcm, hx⟩, ho⟩ := hr
  obtain ⟨⟨a2, c2, rfl, hc2, hcm2, hx2⟩, ho2⟩ := hr2
  have HX := Lib.hid hx
  have HO := Lib.hid ho
  have HX2 := Lib.hid hx2
  have HO2 := Lib.hid ho2
  have HOL := Lib.hid hol
  clear hx ho hx2 ho2 hol
  have hbe : ∀ (X Y : Obj), Below w.heap.size w ((w.alloc X).alloc Y) := fun X Y => ((Below.refl _ w).alloc (Nat.le_refl _) X).alloc (by rw [World.size_alloc]; omega) Y
  have hcases : off ≠ off2 ∨ (off = off2 ∧ fuse ≠ fuse2) ∨ (off = off2 ∧ fuse = fuse2 ∧ l.length ≠ m.length) ∨ (off = off2 ∧ fuse = fuse2 ∧ l.length = m.length) := by
    by_cases h1 : off = off2
    · by_cases h2 : fuse = fuse2
      · by_cases h3 : l.length = m.length
        · exact .inr (.inr (.inr ⟨h1, h2, h3⟩))
        · exact .inr (.inr (.inl ⟨h1, h2, h3⟩))
      · exact .inr (.inl ⟨h1, h2⟩)
    · exact .inl h1
  rcases hcases with g1 | ⟨rfl, g2⟩ | ⟨rfl, rfl, g3⟩ | ⟨rfl, rfl, g3⟩
  · have HR := Lib.hid (HF.out (fun e => g1 (congrArg (fun d : LD => d.2.1) e)))
    have gg : (off = true ∧ off2 = false) ∨ (off = false ∧ off2 = true) := by cases off <;> cases off2 <;> simp at g1 ⊢
    clear g1
    rcases gg with ⟨rfl, rfl⟩ | ⟨rfl, rfl⟩
    all_goals
      go_enter Try.func21, Try.ntmps21
      go_wp2
      go_ret
      exact ⟨by rw [HR.out]; rfl, hbe _ _⟩
  · have HR := Lib.hid (HF.out (fun e => g2 (congrArg (fun d : LD => d.2.2) e)))
    have gg : (fuse != fuse2) = true := by rw [bne_iff_ne]; exact g2
    have gg0 : (off != off) = false := by simp
    clear g2
    go_enter Try.func21, Try.ntmps21
    go_wp2
    go_ret
    exact ⟨by rw [HR.out]; rfl, hbe _ _⟩
  · have HR := Lib.hid (HF.out (fun e => g3 (by have := congrArg (fun d : LD => d.1.length) e; simpa [los] using this)))
    have gg : ((l.length : Int) != (m.length : Int)) = true := by rw [bne_iff_ne]; omega
    have gg0 : (off != off) = false := by simp
    have gg1 : (fuse != fuse) = false := by simp
    clear g3
    go_enter Try.func21, Try.ntmps21
    go_wp2
    go_ret
    exact ⟨by rw [HR.out]; rfl, hbe _ _⟩
  have HL := Lib.hid g3
  have gg : ((l.length : Int) != (m.length : Int)) = false := by rw [bne_eq_false_iff_eq]; omega
  have hle1 : l.length ≤ m.length := by omega
  have hle2 : m.length ≤ l.length := by omega
  clear g3
  have gg0 : (off != off) = false := by simp
  have gg1 : (fuse != fuse) = false := by simp
  have hb1 : (w.alloc (.cells #[.slice a l.length c, .bool off, .int .i64 fuse] 35)).heap.size = w.heap.size + 1 := World.size_alloc _ _
  obtain ⟨w0, hw0, hB0, hd1, hd2⟩ : ∃ w0, w0 = (w.alloc (.cells #[.slice a l.length c, .bool off, .int .i64 fuse] 35)).alloc (.cells #[.slice a2 m.length c2, .bool off, .int .i64 fuse] 35) ∧ Below w.heap.size w w0 ∧ w0.cell? ⟨w.heap.size, 0, none⟩ = some (.slice a l.length c) ∧ w0.cell? ⟨w.heap.size + 1, 0, none⟩ = some (.slice a2 m.length c2) := by
    refine ⟨_, rfl, hbe _ _, ?_, ?_⟩
    · exact cell_old (cell_new w _ _ 0 rfl) _
    · rw [← hb1]; exact cell_new _ _ _ 0 rfl
  have hz0 : w0.heap.size = w.heap.size + 1 + 1 := by rw [hw0, World.size_alloc, hb1]
  go_enter Try.func21, Try.ntmps21
  go_wp2_with fail
  rw [← hw0]
  clear hw0 hb1
  go_wp2
  go_loopw [5] (fun i wr => ∃ k : Nat, k ≤ l.length ∧ i = .int .i64 k ∧ los (l.take k) = los (m.take k) ∧ Below w0.heap.size w0 wr) (fun i _ => l.length - (intOf i).toNat)
  case atStart => exact ⟨0, Nat.zero_le _, rfl, rfl, Below.refl _ _⟩
  case round =>
    obtain ⟨k, hk, rfl, ht, hB⟩ := hrel
    have HT := Lib.hid ht
    have HB := Lib.hid hB
    have hbW := below_chain hB0 hB hB0.size
    have HBW := Lib.hid hbW
    have he1 := cell_below hB hd1
    have he2 := cell_below hB hd2
    clear ht
    by_cases h1 : k < l.length
    · have h2 : k < m.length := by omega
      have h1' : (k : Int) < (l.length : Int) := by omega
      have h2' : (k : Int) < (m.length : Int) := by omega
      have hx := HX.out
      rcases hx with hx | ⟨b, o, rfl, hx⟩
      · exfalso; rw [hx] at h1; simp at h1
      obtain ⟨hx1, hx2, hx3⟩ := df_cells hx h1
      have hc1 := cell_below hbW hx1
      have hc2 := cell_below hbW hx2
      have hc3 := cell_below hbW hx3
      have hy := HX2.out
      rcases hy with hy | ⟨b2, o2, rfl, hy⟩
      · exfalso; rw [hy] at h2; simp at h2
      obtain ⟨hy1, hy2, hy3⟩ := df_cells hy h2
      have hc4 := cell_below hbW hy1
      have hc5 := cell_below hbW hy2
      have hc6 := cell_below hbW hy3
      have HRO := Lib.hid ((HO.out l[k] (by simp)).below hbW)
      have HRO2 := Lib.hid ((HO2.out m[k] (by simp)).below hbW)
      have hol1 := HOL.out l[k] (by simp)
      have HS := Lib.hid (fun h => take_snoc_los h1 h2 HT.out h)
      have HD := Lib.hid (fun h => HF.out (fun e => los_ne h1 h2 h (congrArg (fun d : LD => d.1) e)))
      clear hx hx1 hx2 hx3 hy hy1 hy2 hy3 hbW
      have hf2 := fun X => cell_old he2 X
      replace hc4 := fun X => cell_old hc4 X
      replace hc5 := fun X => cell_old hc5 X
      replace hc6 := fun X => cell_old hc6 X
      generalize l[k] = y at *
      generalize m[k] = z at *
      obtain ⟨n1, t1, v1, os1⟩ := y
      obtain ⟨n2, t2, v2, os2⟩ := z
      simp only [DF.lo] at hc1 hc2 hc3 hc4 hc5 hc6 HRO HRO2 HS HD hol1
      obtain ⟨ao, co, rfl, hcO, hcmO, hxO⟩ := HRO.out
      obtain ⟨ao2, co2, rfl, hcO2, hcmO2, hxO2⟩ := HRO2.out
      have HXO := Lib.hid hxO
      have HXO2 := Lib.hid hxO2
      clear hxO hxO2
      have hbe : ∀ (X Y : Obj), Below wr.heap.size wr ((wr.alloc X).alloc Y) := fun X Y => ((Below.refl _ wr).alloc (Nat.le_refl _) X).alloc (by rw [World.size_alloc]; omega) Y
      have HBE := Lib.hid (fun X Y => below_chain HB.out (hbe X Y) HB.out.size)
      have HBEW := Lib.hid (fun X Y => below_chain HBW.out (hbe X Y) HBW.out.size)
      have hcases : n1 ≠ n2 ∨ (n1 = n2 ∧ t1 ≠ t2) ∨ (n1 = n2 ∧ t1 = t2 ∧ os1.length ≠ os2.length) ∨ (n1 = n2 ∧ t1 = t2 ∧ os1.length = os2.length) := by
        by_cases h1 : n1 = n2
        · by_cases h2 : t1 = t2
          · by_cases h3 : os1.length = os2.length
            · exact .inr (.inr (.inr ⟨h1, h2, h3⟩))
            · exact .inr (.inr (.inl ⟨h1, h2, h3⟩))
          · exact .inr (.inl ⟨h1, h2⟩)
        · exact .inl h1
      rcases hcases with g1 | ⟨rfl, g2⟩ | ⟨rfl, rfl, g3⟩ | ⟨rfl, rfl, g3⟩
      · have HR := Lib.hid (HD.out (fun e => g1 (congrArg (fun d : LF => d.1) e)))
        have gq : (n1 == n2) = false := by rw [beq_eq_false_iff_ne]; exact g1
        clear g1
        go_wp2
        go_ret
        exact ⟨by rw [HR.out]; rfl, HBEW.out _ _⟩
      · have HR := Lib.hid (HD.out (fun e => g2 (congrArg (fun d : LF => d.2.1) e)))
        have gq : (t1 == t2) = false := by rw [beq_eq_false_iff_ne]; exact g2
        have gq0 : (n1 == n1) = true := by simp
        clear g2
        go_wp2
        go_ret
        exact ⟨by rw [HR.out]; rfl, HBEW.out _ _⟩
      · have HR := Lib.hid (HD.out (fun e => g3 (by have := congrArg (fun d : LF => d.2.2.length) e; simpa using this)))
        have gq : ((os1.length : Int) != (os2.length : Int)) = true := by rw [bne_iff_ne]; omega
        have gq0 : (n1 == n1) = true := by simp
        have gq1 : (t1 == t1) = true := by simp
        clear g3
        go_wp2
        go_ret
        exact ⟨by rw [HR.out]; rfl, HBEW.out _ _⟩
      have HLO := Lib.hid g3
      have gq : ((os1.length : Int) != (os2.length : Int)) = false := by rw [bne_eq_false_iff_eq]; omega
      have hle3 : os1.length ≤ os2.length := by omega
      have hle4 : os2.length ≤ os1.length := by omega
      clear g3
      have gq0 : (n1 == n1) = true := by simp
      have gq1 : (t1 == t1) = true := by simp
      obtain ⟨wA, hwA, hBA, hBAW, hbx1, hbx2⟩ : ∃ wA, wA = (wr.alloc (.cells #[S n1, S t1, .slice ao os1.length co] 50)).alloc (.cells #[S n1, S t1, .slice ao2 os2.length co2] 50) ∧ Below w0.heap.size w0 wA ∧ Below wr.heap.size wr wA ∧ wA.cell? ⟨wr.heap.size, 2, none⟩ = some (.slice ao os1.length co) ∧ wA.cell? ⟨wr.heap.size + 1, 2, none⟩ = some (.slice ao2 os2.length co2) := by
        refine ⟨_, rfl, HBE.out _ _, hbe _ _, ?_, ?_⟩
        · exact cell_old (cell_new wr _ _ 2 rfl) _
        · rw [show wr.heap.size + 1 = (wr.alloc (.cells #[S n1, S t1, .slice ao os1.length co] 50)).heap.size from (World.size_alloc _ _).symm]; exact cell_new _ _ _ 2 rfl
      go_wp2_with fail
      rw [← hwA]
      clear hwA
      have hBAV := Lib.hid (below_chain HBW.out hBAW HBW.out.size)
      have hzr : w.heap.size ≤ wr.heap.size := HBW.out.size
      clear hc1 hc2 hc3 hc4 hc5 hc6 hf2 he1 he2 hbe
      go_loopw [8] (fun i wq => ∃ j : Nat, j ≤ os1.length ∧ i = .int .i64 j ∧ os1.take j = os2.take j ∧ Below wA.heap.size wA wq) (fun i _ => os1.length - (intOf i).toNat)
      case atStart => exact ⟨0, Nat.zero_le _, rfl, rfl, Below.refl _ _⟩
      case round =>
        obtain ⟨j, hj, rfl, htO, hBq⟩ := hrel
        have HTO := Lib.hid htO
        have HBQ := Lib.hid hBq
        have hbq1 := cell_below hBq hbx1
        have hbq2 := cell_below hBq hbx2
        have hbqr := below_chain hBAW hBq hBAW.size
        have HBQ0 := Lib.hid (below_chain hBA hBq hBA.size)
        have HBQW := Lib.hid (below_chain hBAV.out hBq hBAV.out.size)
        clear htO
        by_cases h3 : j < os1.length
        · have h4 : j < os2.length := by omega
          have h3' : (j : Int) < (os1.length : Int) := by omega
          have h4' : (j : Int) < (os2.length : Int) := by omega
          have hx := HXO.out
          rcases hx with hx | ⟨b3, o3, rfl, hx⟩
          · exfalso; rw [hx] at h3; simp at h3
          have hy := HXO2.out
          rcases hy with hy | ⟨b4, o4, rfl, hy⟩
          · exfalso; rw [hy] at h4; simp at h4
          obtain ⟨hx1, hx2⟩ := op_cells hx h3
          obtain ⟨hy1, hy2⟩ := op_cells hy h4
          have hd1 := cell_below hbqr hx1
          have hd2 := cell_below hbqr hx2
          have hd3 := cell_below hbqr hy1
          have hd4 := cell_below hbqr hy2
          have HSO := Lib.hid (fun h => take_snoc_eq h3 h4 HTO.out h)
          have HDO := Lib.hid (fun h => HD.out (fun e => at_ne h3 h4 h (congrArg (fun d : LF => d.2.2) e)))
          clear hx hy hx1 hx2 hy1 hy2 hbqr
          generalize os1[j] = p at *
          generalize os2[j] = q at *
          obtain ⟨p1, p2⟩ := p
          obtain ⟨q1, q2⟩ := q
          simp only at hd1 hd2 hd3 hd4
          by_cases hpq : p1 = q1 ∧ p2 = q2
          · obtain ⟨rfl, rfl⟩ := hpq
            have HSS := Lib.hid (HSO.out rfl)
            go_wp2
            go_quiet (fail)
            go_wp2
            go_roundw
            case rel => exact ⟨j + 1, by omega, by go_num, HSS.out, belowN HBQ.out _⟩
            case measure => simp [intOf]; omega
          · have HR := Lib.hid (HDO.out (by intro h; cases h; exact hpq ⟨rfl, rfl⟩))
            have hcase : (p1 == q1) = false ∨ ((p1 == q1) = true ∧ (p2 == q2) = false) := by
              by_cases h1 : p1 = q1
              · exact .inr ⟨by rw [beq_iff_eq]; exact h1, by rw [beq_eq_false_iff_ne]; exact fun h => hpq ⟨h1, h⟩⟩
              · exact .inl (by rw [beq_eq_false_iff_ne]; exact h1)
            clear hpq
            rcases hcase with h5 | ⟨h5, h6⟩
            all_goals
              go_wp2
              go_quiet (fail)
              go_wp2
              go_ret
              exact ⟨by rw [HR.out]; rfl, belowN HBQW.out _⟩
        · have h3' : ¬ (j : Int) < (os1.length : Int) := by omega
          have HSS := Lib.hid (HS.out (by
            have e := HTO.out
            rw [List.take_of_length_le (by omega), List.take_of_length_le (by omega)] at e
            rw [e]))
          go_wp2
          go_roundw
          case rel => exact ⟨k + 1, by omega, by go_num, HSS.out, HBQ0.out⟩
          case measure => simp [intOf]; omega
    · have h1' : ¬ (k : Int) < (l.length : Int) := by omega
      have HR := Lib.hid (HG.out (by
        have e := HT.out
        rw [List.take_of_length_le (by omega), List.take_of_length_le (by omega)] at e
        rw [e]))
      go_wp2
      go_ret
      exact ⟨by rw [HR.out]; rfl, HBW.out⟩
end Go.Proofs.Ythjoaoakadaieaa
