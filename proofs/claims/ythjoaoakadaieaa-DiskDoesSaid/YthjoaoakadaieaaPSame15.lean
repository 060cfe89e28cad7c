/- The program's Same of disks. -/
import Derived.Test.YthjoaoakadaieaaRSame15
import Derived.Sort.Walk0
namespace Go.Proofs.Ythjoaoakadaieaa
open Go.RowKit

set_option maxHeartbeats 2000000 in
set_option maxRecDepth 100000 in
theorem peqOp_walk (res : Bool) (v v2 : Value) (xs ys : List Opn) (w : World) (hF : xs ≠ ys → res = false) (hG : xs = ys → res = true) (hx : OpRow w v xs) (hy : OpRow w v2 ys) (hcl : xs.length ≤ 1000000) :
    Calls Try.prog 60 #[v, v2] w fun e w' => e = .returned (.bool res) ∧ Below w.heap.size w w' := by
  obtain ⟨a, c, rfl, hc, hm1, hx⟩ := hx
  obtain ⟨a2, c2, rfl, hc2, hm2, hy⟩ := hy
  have HX := Lib.hid hx
  have HY := Lib.hid hy
  have HF := Lib.hid hF
  have HG := Lib.hid hG
  clear hx hy hF hG
  by_cases hl : xs.length = ys.length
  · have HL := Lib.hid hl
    have hne : ((xs.length : Int) != (ys.length : Int)) = false := by rw [bne_eq_false_iff_eq]; omega
    have hle1 : xs.length ≤ ys.length := by omega
    clear hl
    go_enter Try.func60, Try.ntmps60
    go_wp2
    go_loopw [13] (fun i wr => ∃ k : Nat, k ≤ xs.length ∧ i = .int .i64 k ∧ xs.take k = ys.take k ∧ Below w.heap.size w wr) (fun i _ => xs.length - (intOf i).toNat)
    case atStart => exact ⟨0, Nat.zero_le _, rfl, rfl, Below.refl _ _⟩
    case round =>
      obtain ⟨k, hk, rfl, ht, hB⟩ := hrel
      have HT := Lib.hid ht
      have HB := Lib.hid hB
      clear ht
      by_cases h1 : k < xs.length
      · have h2 : k < ys.length := by omega
        have hx := HX.out
        rcases hx with hx | ⟨b, o, rfl, hx⟩
        · exfalso; rw [hx] at h1; simp at h1
        obtain ⟨hx1, hx2⟩ := op_cells hx h1
        have hcx1 := cell_below hB hx1
        have hcx2 := cell_below hB hx2
        have hy := HY.out
        rcases hy with hy | ⟨b2, o2, rfl, hy⟩
        · exfalso; rw [hy] at h2; simp at h2
        obtain ⟨hy1, hy2⟩ := op_cells hy h2
        have hcy1 := cell_below hB hy1
        have hcy2 := cell_below hB hy2
        have h1' : (k : Int) < (xs.length : Int) := by omega
        have h2' : (k : Int) < (ys.length : Int) := by omega
        have hkc1 : (k : Int) < (c : Int) := by omega
        have HSO := Lib.hid (fun h => take_snoc_eq h1 h2 HT.out h)
        have HDO := Lib.hid (fun h => HF.out (at_ne h1 h2 h))
        clear hx hx1 hx2 hy hy1 hy2 hB
        generalize xs[k] = p at *
        generalize ys[k] = q at *
        obtain ⟨p1, p2⟩ := p
        obtain ⟨q1, q2⟩ := q
        simp only at hcx1 hcx2 hcy1 hcy2
        by_cases hpq : p1 = q1 ∧ p2 = q2
        · obtain ⟨rfl, rfl⟩ := hpq
          have HSS := Lib.hid (HSO.out rfl)
          go_wp2
          go_quiet (fail)
          go_wp2
          go_roundw
          case rel => exact ⟨k + 1, by omega, by go_num, HSS.out, belowN HB.out _⟩
          case measure => simp [intOf]; omega
        · have HR := Lib.hid (HDO.out (by intro h; cases h; exact hpq ⟨rfl, rfl⟩))
          have hcase : (p1 == q1) = false ∨ ((p1 == q1) = true ∧ (p2 == q2) = false) := by
            by_cases h1 : p1 = q1
            · exact .inr ⟨by rw [beq_iff_eq]; exact h1, by rw [beq_eq_false_iff_ne]; exact fun h => hpq ⟨h1, h⟩⟩
            · exact .inl (by rw [beq_eq_false_iff_ne]; exact h1)
          clear hpq
          rcases hcase with h5 | ⟨h5, h6⟩
          all_goals
            go_wp2
            go_quiet (fail)
            go_wp2
            go_ret
            exact ⟨by rw [HR.out]; rfl, belowN HB.out _⟩
      · have h1' : ¬ (k : Int) < (xs.length : Int) := by omega
        have HR := Lib.hid (HG.out (by
          have e := HT.out
          have e2 := HL.out
          rwa [List.take_of_length_le (by omega), List.take_of_length_le (by omega)] at e))
        go_wp2
        go_ret
        exact ⟨by rw [HR.out]; rfl, HB.out⟩
  · have HR := Lib.hid (HF.out (fun e => hl (congrArg List.length e)))
    have hne : ((xs.length : Int) != (ys.length : Int)) = true := by rw [bne_iff_ne]; omega
    clear hl
    go_enter Try.func60, Try.ntmps60
    go_wp2
    go_ret
    exact ⟨by rw [HR.out]; rfl, Below.refl _ _⟩

set_option maxHeartbeats 2000000 in
set_option maxRecDepth 100000 in
theorem psame1_walk (res : Bool) (x y : DF) (w : World) (hF : x.lo ≠ y.lo → res = false) (hG : x.lo = y.lo → res = true) (hx : OpRow w x.ov x.ops) (hy : OpRow w y.ov y.ops) (hcl : x.ops.length ≤ 1000000) :
    Calls Try.prog 59 #[DFV x, DFV y] w fun e w' => e = .returned (.bool res) ∧ Below w.heap.size w w' := by
  obtain ⟨n1, t1, v1, os1⟩ := x
  obtain ⟨n2, t2, v2, os2⟩ := y
  simp only [DF.lo] at hF hG hx hy hcl
  have hb : ∀ (X Y : Obj), Below w.heap.size w ((w.alloc X).alloc Y) := fun X Y => ((Below.refl _ w).alloc (Nat.le_refl _) X).alloc (by rw [World.size_alloc]; omega) Y
  by_cases g1 : n1 = n2
  case neg =>
    have HR := Lib.hid (hF (fun e => g1 (congrArg (fun d : LF => d.1) e)))
    have gq : (n1 == n2) = false := by rw [beq_eq_false_iff_ne]; exact g1
    obtain ⟨_, _, rfl, _⟩ := hx
    obtain ⟨_, _, rfl, _⟩ := hy
    clear g1 hF hG
    go_enter Try.func59, Try.ntmps59
    go_wp2
    go_ret
    exact ⟨by rw [HR.out]; rfl, hb _ _⟩
  by_cases g2 : t1 = t2
  case neg =>
    have HR := Lib.hid (hF (fun e => g2 (congrArg (fun d : LF => d.2.1) e)))
    have gq : (t1 == t2) = false := by rw [beq_eq_false_iff_ne]; exact g2
    have gq0 : (n1 == n2) = true := by rw [beq_iff_eq]; exact g1
    obtain ⟨_, _, rfl, _⟩ := hx
    obtain ⟨_, _, rfl, _⟩ := hy
    clear g1 g2 hF hG
    go_enter Try.func59, Try.ntmps59
    go_wp2
    go_ret
    exact ⟨by rw [HR.out]; rfl, hb _ _⟩
  subst g1 g2
  have gq0 : (n1 == n1) = true := by simp
  have gq1 : (t1 == t1) = true := by simp
  have CE := fun W (hW : Below w.heap.size w W) => peqOp_walk res v1 v2 os1 os2 W (fun h => hF (fun e => h (congrArg (fun d : LF => d.2.2) e))) (fun h => hG (by rw [h])) (hx.below hW) (hy.below hW) hcl
  have HCE := Lib.hid CE
  obtain ⟨a1, c1, rfl, _⟩ := hx
  obtain ⟨a2, c2, rfl, _⟩ := hy
  have HB := Lib.hid hb
  clear hF hG CE hb
  go_enter Try.func59, Try.ntmps59
  go_wp2_with fail
  refine (HCE.out _ (HB.out _ _)).mono ?_
  rintro e w1 ⟨rfl, hb1⟩
  go_wp2
  go_ret
  exact ⟨rfl, below_chain (HB.out _ _) hb1 (HB.out _ _).size⟩

set_option maxHeartbeats 4000000 in
set_option maxRecDepth 100000 in
theorem peqDF_walk (res : Bool) (v v2 fv : Value) (l m : List DF) (w : World) (hfv : fv = .func (.func 59) #[] #[]) (hF : los l ≠ los m → res = false) (hG : los l = los m → res = true) (hr : FilesR w v l) (hr2 : FilesR w v2 m) (hcnt : l.length ≤ 1000000) (hol : ∀ x ∈ l, x.ops.length ≤ 1000000) :
    Calls Try.prog 58 #[v, v2, fv] w fun e w' => e = .returned (.bool res) ∧ Below w.heap.size w w' := by
  subst hfv
  obtain ⟨⟨a, c, rfl, hc, hcm, hx⟩, ho⟩ := hr
  obtain ⟨⟨a2, c2, rfl, hc2, hcm2, hx2⟩, ho2⟩ := hr2
  have HX := Lib.hid hx
  have HO := Lib.hid ho
  have HX2 := Lib.hid hx2
  have HO2 := Lib.hid ho2
  have HOL := Lib.hid hol
  have HF := Lib.hid hF
  have HG := Lib.hid hG
  clear hx ho hx2 ho2 hol hF hG
  by_cases hl : l.length = m.length
  · have HL := Lib.hid hl
    have hne : ((l.length : Int) != (m.length : Int)) = false := by rw [bne_eq_false_iff_eq]; omega
    have hle1 : l.length ≤ m.length := by omega
    clear hl
    go_enter Try.func58, Try.ntmps58
    go_wp2
    go_loopw [17] (fun i wr => ∃ k : Nat, k ≤ l.length ∧ i = .int .i64 k ∧ los (l.take k) = los (m.take k) ∧ Below w.heap.size w wr) (fun i _ => l.length - (intOf i).toNat)
    case atStart => exact ⟨0, Nat.zero_le _, rfl, rfl, Below.refl _ _⟩
    case round =>
      obtain ⟨k, hk, rfl, ht, hB⟩ := hrel
      have HT := Lib.hid ht
      have HB := Lib.hid hB
      clear ht
      by_cases h1 : k < l.length
      · have h2 : k < m.length := by omega
        have h1' : (k : Int) < (l.length : Int) := by omega
        have h2' : (k : Int) < (m.length : Int) := by omega
        have hx := HX.out
        rcases hx with hx | ⟨b, o, rfl, hx⟩
        · exfalso; rw [hx] at h1; simp at h1
        obtain ⟨hx1, hx2, hx3⟩ := df_cells hx h1
        have hc1 := cell_below hB hx1
        have hc2 := cell_below hB hx2
        have hc3 := cell_below hB hx3
        have hy := HX2.out
        rcases hy with hy | ⟨b2, o2, rfl, hy⟩
        · exfalso; rw [hy] at h2; simp at h2
        obtain ⟨hy1, hy2, hy3⟩ := df_cells hy h2
        have hc4 := cell_below hB hy1
        have hc5 := cell_below hB hy2
        have hc6 := cell_below hB hy3
        have hbe : ∀ (X Y : Obj), Below w.heap.size w ((wr.alloc X).alloc Y) := fun X Y => (hB.alloc hB.size X).alloc (by rw [World.size_alloc]; have := hB.size; omega) Y
        have hdec : ∃ r : Bool, (l[k].lo ≠ m[k].lo → r = false) ∧ (l[k].lo = m[k].lo → r = true) := by
          by_cases h : l[k].lo = m[k].lo
          · exact ⟨true, fun h2 => absurd h h2, fun _ => rfl⟩
          · exact ⟨false, fun _ => rfl, fun h2 => absurd h2 h⟩
        have hrt : ∃ r : Bool, (l[k].lo ≠ m[k].lo → r = false) ∧ (l[k].lo = m[k].lo → r = true) ∧ (r = true → los (l.take (k + 1)) = los (m.take (k + 1))) ∧ (r = false → res = false) := by
          obtain ⟨r, g1, g2⟩ := hdec
          refine ⟨r, g1, g2, fun hr => ?_, fun hr => ?_⟩
          · refine take_snoc_los h1 h2 HT.out ?_
            by_cases h : l[k].lo = m[k].lo
            · exact h
            · rw [g1 h] at hr; cases hr
          · refine HF.out (los_ne h1 h2 ?_)
            intro h; rw [g2 h] at hr; cases hr
        clear hdec
        obtain ⟨r, g1, g2, g3, g4⟩ := hrt
        have HG3 := Lib.hid g3
        have HG4 := Lib.hid g4
        have hox := HO.out l[k] (by simp)
        have hoy := HO2.out m[k] (by simp)
        have hol1 := HOL.out l[k] (by simp)
        have HCL := Lib.hid (fun W (hW : Below w.heap.size w W) => psame1_walk r l[k] m[k] W g1 g2 (hox.below hW) (hoy.below hW) hol1)
        clear hx hx1 hx2 hx3 hy hy1 hy2 hy3 g1 g2 g3 g4 hol1
        replace hc4 := fun X => cell_old hc4 X
        replace hc5 := fun X => cell_old hc5 X
        replace hc6 := fun X => cell_old hc6 X
        generalize l[k] = y at *
        generalize m[k] = z at *
        obtain ⟨n1, t1, v1, os1⟩ := y
        obtain ⟨n2, t2, v2, os2⟩ := z
        simp only at hc1 hc2 hc3 hc4 hc5 hc6 hox hoy HCL
        obtain ⟨ao, co, rfl, _⟩ := hox
        obtain ⟨ao2, co2, rfl, _⟩ := hoy
        have HBE := Lib.hid hbe
        clear hbe hB
        go_wp2_with fail
        refine (HCL.out _ (HBE.out _ _)).mono ?_
        rintro e w1 ⟨rfl, hb1⟩
        have hB1 := below_chain (HBE.out _ _) hb1 (HBE.out _ _).size
        clear HBE hb1 HCL
        cases r with
        | true =>
          have HSS := Lib.hid (HG3.out rfl)
          go_wp2
          go_roundw
          case rel => exact ⟨k + 1, by omega, by go_num, HSS.out, hB1⟩
          case measure => simp [intOf]; omega
        | false =>
          have HR := Lib.hid (HG4.out rfl)
          go_wp2
          go_ret
          exact ⟨by rw [HR.out]; rfl, hB1⟩
      · have h1' : ¬ (k : Int) < (l.length : Int) := by omega
        have HR := Lib.hid (HG.out (by
          have e := HT.out
          have e2 := HL.out
          rwa [List.take_of_length_le (by omega), List.take_of_length_le (by omega)] at e))
        go_wp2
        go_ret
        exact ⟨by rw [HR.out]; rfl, HB.out⟩
  · have HR := Lib.hid (HF.out (fun e => hl (by have := congrArg List.length e; simpa [los] using this)))
    have hne : ((l.length : Int) != (m.length : Int)) = true := by rw [bne_iff_ne]; omega
    clear hl
    go_enter Try.func58, Try.ntmps58
    go_wp2
    go_ret
    exact ⟨by rw [HR.out]; rfl, Below.refl _ _⟩

set_option maxHeartbeats 4000000 in
set_option maxRecDepth 100000 in
theorem psame15_walk (v v2 : Value) (off off2 : Bool) (fuse fuse2 : Int) (l m : List DF) (w : World) (hr : FilesR w v l) (hr2 : FilesR w v2 m) (hcnt : l.length ≤ 1000000) (hol : ∀ x ∈ l, x.ops.length ≤ 1000000) :
    Calls Try.prog 29 #[DiskV v off fuse, DiskV v2 off2 fuse2] w fun e w' => e = .returned (.bool (decide (((los l, off, fuse) : LD) = (los m, off2, fuse2)))) ∧ Below w.heap.size w w' := by
  have HF := Lib.hid (fun (h : ((los l, off, fuse) : LD) ≠ (los m, off2, fuse2)) => decide_eq_false h)
  have HG := Lib.hid (fun (h : ((los l, off, fuse) : LD) = (los m, off2, fuse2)) => decide_eq_true h)
  generalize decide (((los l, off, fuse) : LD) = (los m, off2, fuse2)) = res at *
  have hb : ∀ (X Y : Obj), Below w.heap.size w ((w.alloc X).alloc Y) := fun X Y => ((Below.refl _ w).alloc (Nat.le_refl _) X).alloc (by rw [World.size_alloc]; omega) Y
  have HR1 := Lib.hid hr
  have HR2 := Lib.hid hr2
  obtain ⟨⟨a, c, rfl, _⟩, _⟩ := hr
  obtain ⟨⟨a2, c2, rfl, _⟩, _⟩ := hr2
  have hcases : off ≠ off2 ∨ (off = off2 ∧ fuse ≠ fuse2) ∨ (off = off2 ∧ fuse = fuse2) := by
    by_cases h1 : off = off2
    · by_cases h2 : fuse = fuse2
      · exact .inr (.inr ⟨h1, h2⟩)
      · exact .inr (.inl ⟨h1, h2⟩)
    · exact .inl h1
  rcases hcases with g1 | ⟨rfl, g2⟩ | ⟨rfl, rfl⟩
  · have HR := Lib.hid (HF.out (fun e => g1 (congrArg (fun d : LD => d.2.1) e)))
    have gg : (off = true ∧ off2 = false) ∨ (off = false ∧ off2 = true) := by cases off <;> cases off2 <;> simp at g1 ⊢
    clear g1 hol
    rcases gg with ⟨rfl, rfl⟩ | ⟨rfl, rfl⟩
    all_goals
      go_enter Try.func29, Try.ntmps29
      go_wp2
      go_ret
      exact ⟨by rw [HR.out]; rfl, hb _ _⟩
  · have HR := Lib.hid (HF.out (fun e => g2 (congrArg (fun d : LD => d.2.2) e)))
    have gg : (fuse == fuse2) = false := by rw [beq_eq_false_iff_ne]; exact g2
    have gg0 : (off == off) = true := by simp
    clear g2 hol
    go_enter Try.func29, Try.ntmps29
    go_wp2
    go_ret
    exact ⟨by rw [HR.out]; rfl, hb _ _⟩
  · have gg : (fuse == fuse) = true := by simp
    have gg0 : (off == off) = true := by simp
    have HCE := Lib.hid (fun W (hW : Below w.heap.size w W) => peqDF_walk res (.slice a l.length c) (.slice a2 m.length c2) _ l m W rfl (fun h => HF.out (fun e => h (congrArg (fun d : LD => d.1) e))) (fun h => HG.out (by rw [h])) (HR1.out.below hW) (HR2.out.below hW) hcnt hol)
    have HB := Lib.hid hb
    clear hb hol
    go_enter Try.func29, Try.ntmps29
    go_wp2_with fail
    refine (HCE.out _ (HB.out _ _)).mono ?_
    rintro e w1 ⟨rfl, hb1⟩
    go_wp2
    go_ret
    exact ⟨rfl, below_chain (HB.out _ _) hb1 (HB.out _ _).size⟩
end Go.Proofs.Ythjoaoakadaieaa
