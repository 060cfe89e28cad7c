/- cmp.Compare at texts. The program's look for a key among objects. Worlds in which one block alone turns. A reader of bytes in memory: its cells. The reference's Name. -/
import Derived.Test.YtocommjoncchpaaGreatDoorJRowG
import Derived.Test.YtocommjoncchpaaGreatDoorJKeysOf
import Derived.Maps.AppendAt
import Derived.Test.YtocommjoncchpaaGreatDoorJPlain
namespace Go.Proofs.YtocommjoncchpaaGreatDoor
open Go.RowKit

theorem isnan_walk (p : List UInt8) (w : World) : Calls Tryz.prog 109 #[S p] w fun e w' => e = .returned (.bool false) ∧ w' = w := by
  have hpp : (p == p) = true := by simp
  go_enter Tryz.func109, Tryz.ntmps109
  go_wp2
  go_ret
  exact ⟨rfl, rfl⟩

set_option maxHeartbeats 400000 in
theorem compare_walk (p n : List UInt8) (w : World) : Calls Tryz.prog 75 #[S p, S n] w fun e w' => e = .returned (.int .i64 (cmpS p n)) ∧ w' = w := by
  rcases three_ways p n with ⟨h1, _, h2, h3, h4⟩ | ⟨h1, rfl, h2, h3, h4⟩ | ⟨h1, _, h2, h3, h4⟩
  all_goals
    have H1 := Lib.hid h1
    rw [H1.out]
    clear h1
    go_enter Tryz.func75, Tryz.ntmps75
    go_wp2_with (go_at_call 109; refine (isnan_walk _ _).mono ?_; rintro e w1 ⟨rfl, rfl⟩)
    go_ret
    exact ⟨rfl, rfl⟩

end Go.Proofs.YtocommjoncchpaaGreatDoor

namespace Go.Proofs.YtocommjoncchpaaGreatDoor
open Go.RowKit

set_option maxHeartbeats 400000 in
theorem ato1_walk (x : Snp) (n : List UInt8) (w : World) : Calls Tryz.prog 74 #[SnpV x, S n] w fun e w' => e = .returned (.int .i64 (cmpS x.1 n)) ∧ Below w.heap.size w w' := by
  obtain ⟨p, q⟩ := x
  have C := fun w => compare_walk p n w
  simp only
  generalize cmpS p n = r at *
  go_enter Tryz.func74, Tryz.ntmps74
  go_wp2_with (go_at_call 75; refine (C _).mono ?_; rintro e w1 ⟨rfl, rfl⟩)
  go_ret
  exact ⟨rfl, (Below.refl _ _).alloc (Nat.le_refl _) _⟩

theorem namesO_at {l : List Snp} {h : Nat} (hh : h < l.length) : (l.map (·.1))[h]'(by simpa using hh) = l[h].1 := by simp

set_option maxHeartbeats 2000000 in
set_option maxRecDepth 100000 in
theorem bsearchO_walk (v fv : Value) (l : List Snp) (n : List UInt8) (w : World) (hfv : fv = .func (.func 74) #[] #[]) (hr : SnpRow w v l) (hcnt : l.length ≤ 1100000) (hup : upS (l.map (·.1))) :
    Calls Tryz.prog 73 #[v, S n, fv] w fun e w' => e = .returned (.tuple #[.int .i64 (posL (l.map (·.1)) n : Nat), .bool (decide (n ∈ l.map (·.1)))]) ∧ Below w.heap.size w w' := by
  subst hfv
  obtain ⟨a, c, rfl, hc, hm, hx⟩ := hr
  have HX := Lib.hid hx
  have HUP := Lib.hid hup
  clear hx hup
  go_enter Tryz.func73, Tryz.ntmps73
  go_wp2
  go_loopw [9, 10] (fun i j wr => ∃ a b : Nat, a ≤ b ∧ b ≤ l.length ∧ i = .int .i64 a ∧ j = .int .i64 b ∧ (∀ y ∈ (l.map (·.1)).take a, y < n) ∧ (∀ y ∈ (l.map (·.1)).drop b, ¬ y < n) ∧ Below w.heap.size w wr) (fun i j _ => (intOf j).toNat - (intOf i).toNat)
  case atStart => exact ⟨0, l.length, Nat.zero_le _, Nat.le_refl _, rfl, rfl, by simp, by rw [List.drop_eq_nil_of_le (by simp)]; simp, Below.refl _ _⟩
  case round =>
    obtain ⟨a0, b0, hab, hb, rfl, rfl, hlo, hhi, hB⟩ := hrel
    have HLO := Lib.hid hlo
    have HHI := Lib.hid hhi
    have HB := Lib.hid hB
    clear hlo hhi
    by_cases h1 : a0 < b0
    · obtain ⟨hk1, hk2⟩ := half h1
      have hkl : (a0 + b0) / 2 < l.length := by omega
      have hx := HX.out
      rcases hx with hx | ⟨b, o, rfl, hx⟩
      · exfalso; rw [hx] at hkl; simp at hkl
      obtain ⟨hx1, hx2⟩ := snp_cells hx hkl
      have hc1 := cell_below hB hx1
      have hc2 := cell_below hB hx2
      have HA := Lib.hid (fun h => up_before (n := n) (h := (a0 + b0) / 2) HUP.out (by simpa using hkl) h)
      have HD := Lib.hid (fun h => up_behind (n := n) (h := (a0 + b0) / 2) HUP.out (by simpa using hkl) h)
      rw [namesO_at hkl] at HA HD
      clear hx hx1 hx2 hB
      have CL := fun w => ato1_walk l[(a0 + b0) / 2] n w
      have h3 := three_ways l[(a0 + b0) / 2].1 n
      generalize l[(a0 + b0) / 2] = y at *
      obtain ⟨p, q⟩ := y
      simp only at CL h3 HA HD
      have h1' : (a0 : Int) < (b0 : Int) := by omega
      rcases h3 with ⟨hc, hlt, _⟩ | ⟨hc, rfl, _⟩ | ⟨hc, hlt, _⟩
      · have HF := Lib.hid (HA.out hlt)
        rw [hc] at CL
        clear hc hlt
        go_wp2_with (go_at_call 74; refine (CL _).mono ?_; rintro e w1 ⟨rfl, hb1⟩)
        go_roundw
        case rel => exact ⟨(a0 + b0) / 2 + 1, b0, by omega, by omega, by go_num, rfl, HF.out, HHI.out, below_chain HB.out hb1 HB.out.size⟩
        case measure => simp [intOf]; omega
      · have HF := Lib.hid (HD.out (List.lt_irrefl _))
        rw [hc] at CL
        clear hc
        go_wp2_with (go_at_call 74; refine (CL _).mono ?_; rintro e w1 ⟨rfl, hb1⟩)
        go_roundw
        case rel => exact ⟨a0, (a0 + b0) / 2, by omega, by omega, rfl, by go_num, HLO.out, HF.out, below_chain HB.out hb1 HB.out.size⟩
        case measure => simp [intOf]; omega
      · have HF := Lib.hid (HD.out (not_lt_of hlt))
        rw [hc] at CL
        clear hc hlt
        go_wp2_with (go_at_call 74; refine (CL _).mono ?_; rintro e w1 ⟨rfl, hb1⟩)
        go_roundw
        case rel => exact ⟨a0, (a0 + b0) / 2, by omega, by omega, rfl, by go_num, HLO.out, HF.out, below_chain HB.out hb1 HB.out.size⟩
        case measure => simp [intOf]; omega
    · obtain rfl : a0 = b0 := by omega
      have HP := Lib.hid (posL_at (n := n) (by simpa using hb) HLO.out (fun h => HHI.out _ (by rw [List.drop_eq_getElem_cons h]; simp)))
      by_cases h2 : a0 < l.length
      · have hx := HX.out
        rcases hx with hx | ⟨b, o, rfl, hx⟩
        · exfalso; rw [hx] at h2; simp at h2
        obtain ⟨hx1, hx2⟩ := snp_cells hx h2
        have hc1 := cell_below hB hx1
        have hc2 := cell_below hB hx2
        have HM := Lib.hid (mem_at HUP.out HP.out (by simpa using h2))
        rw [namesO_at h2] at HM
        clear hx hx1 hx2 hB
        have CL := fun w => ato1_walk l[a0] n w
        generalize l[a0] = y at *
        obtain ⟨p, q⟩ := y
        simp only at CL HM
        have h2' : (a0 : Int) < (l.length : Int) := by omega
        generalize cmpS p n = r at *
        go_wp2_with (go_at_call 74; refine (CL _).mono ?_; rintro e w1 ⟨rfl, hb1⟩)
        go_ret2
        exact ⟨by rw [HP.out, HM.out]; rfl, below_chain HB.out hb1 HB.out.size⟩
      · have h2' : ¬ (a0 : Int) < (l.length : Int) := by omega
        have HM := Lib.hid (mem_end HUP.out (HP.out.trans (by simp; omega)))
        go_wp2
        go_ret2
        exact ⟨by rw [HP.out, HM.out]; rfl, HB.out⟩

theorem pato_walk (v : Value) (l : List Snp) (n : List UInt8) (w : World) (hr : SnpRow w v l) (hcnt : l.length ≤ 1100000) (hup : upS (l.map (·.1))) :
    Calls Tryz.prog 55 #[v, S n] w fun e w' => e = .returned (.tuple #[.int .i64 (posL (l.map (·.1)) n : Nat), .bool (decide (n ∈ l.map (·.1)))]) ∧ Below w.heap.size w w' := by
  have C := bsearchO_walk v _ l n w rfl hr hcnt hup
  generalize posL (l.map (·.1)) n = pp at *
  generalize decide (n ∈ l.map (·.1)) = dd at *
  go_enter Tryz.func55, Tryz.ntmps55
  go_wp2_with (go_at_call 73; refine (C).mono ?_; rintro e w1 ⟨rfl, hb1⟩)
  go_ret2
  exact ⟨rfl, hb1⟩

set_option maxHeartbeats 1100000 in
set_option maxRecDepth 100000 in
theorem pget_walk (v : Value) (l : List Snp) (n : List UInt8) (w : World) (hr : SnpRow w v l) (hcnt : l.length ≤ 1100000) (hup : upS (namesR l)) :
    Calls Tryz.prog 36 #[v, S n] w fun e w' => e = .returned (.tuple #[S (rootOf (findR l n)), .bool (findR l n).isSome]) ∧ Below w.heap.size w w' := by
  have C := pato_walk v l n w hr hcnt hup
  obtain ⟨a, c, rfl, hc, hm, hx⟩ := hr
  by_cases hin : n ∈ namesR l
  · obtain ⟨hk, hf⟩ := findR_pos hup hin
    have HF := Lib.hid hf
    have hin2 : decide (n ∈ l.map (·.1)) = true := by simpa [namesR] using hin
    rw [hin2] at C
    have hpp : posL (l.map (·.1)) n = posL (namesR l) n := rfl
    rw [hpp] at C
    clear hf hin hin2 hpp hup
    rcases hx with hx | ⟨b, o, rfl, hx⟩
    · exfalso; rw [hx] at hk; simp at hk
    obtain ⟨hx1, hx2⟩ := snp_cells hx hk
    clear hx
    generalize posL (namesR l) n = k at *
    generalize l[k] = y at *
    obtain ⟨p, q⟩ := y
    have hk' : (k : Int) < (l.length : Int) := by omega
    rw [HF.out]
    go_enter Tryz.func36, Tryz.ntmps36
    go_wp2_with (go_at_call 55; refine C.mono ?_; rintro e w1 ⟨rfl, hb⟩; have hc1 := cell_below hb hx1; have hc2 := cell_below hb hx2)
    go_ret2
    exact ⟨rfl, hb⟩
  · have HF := Lib.hid (findR_none hin)
    have hin2 : decide (n ∈ l.map (·.1)) = false := by simpa [namesR] using hin
    rw [hin2] at C
    clear hin hin2 hx
    rw [HF.out]
    generalize posL (l.map (·.1)) n = k at *
    go_enter Tryz.func36, Tryz.ntmps36
    go_wp2_with (go_at_call 55; refine (C).mono ?_; rintro e w1 ⟨rfl, hb⟩)
    go_ret2
    exact ⟨rfl, hb⟩
end Go.Proofs.YtocommjoncchpaaGreatDoor

namespace Go.Proofs.YtocommjoncchpaaGreatDoor
open Go.RowKit

/-- Of the old blocks only g may have turned. -/
abbrev Gro (g : Nat) (w w' : World) : Prop := w.grownBy w' (some g)
theorem gro_of {g : Nat} {w w' : World} (h : Below w.heap.size w w') : Gro g w w' := ⟨h.os, h.tape, h.output, h.size, fun k hk _ => h.block k hk⟩
theorem gro_chain {g : Nat} {w w1 w2 : World} (h : Gro g w w1) (h2 : Below w1.heap.size w1 w2) : Gro g w w2 := World.grownBy.trans h (gro_of h2)
theorem gro_set {g : Nat} {w w1 : World} (h : Gro g w w1) (o : Nat) (v : Value) : Gro g w (w1.setCell ⟨g, o, none⟩ v) :=
  World.grownBy.trans h ⟨rfl, rfl, rfl, by simp, fun k hk hne => by
    have hne' : k ≠ g := fun e => hne (by rw [e])
    simp [World.setCell, Array.getElem?_modify, hne'.symm]⟩
theorem gro_below {g B : Nat} {w w' : World} (h : Gro g w w') (hg : B ≤ g) (hw : B ≤ w.heap.size) : Below B w w' :=
  (Below.refl B w).grown h hw (fun j hj => by cases hj; exact hg)
theorem gro_cell {g : Nat} {w w' : World} (h : Gro g w w') {b o : Nat} {v : Value} (hb : b ≠ g) (hc : w.cell? ⟨b, o, none⟩ = some v) : w'.cell? ⟨b, o, none⟩ = some v :=
  h.cell hc (fun e => hb (Option.some.inj e))
theorem gro_own {g : Nat} {w w' : World} {base e k n : Nat} {v : Value} {xs : List Value} (h : w.ownsRow base e k v n xs) (hb : Gro g w w') (hg : g < base) : w'.ownsRow base e k v n xs :=
  h.kept hb (by
    rcases h.2 with ⟨h, _⟩ | ⟨b, cap, cur, h, hge, _⟩
    · rw [h]; exact .inl rfl
    · rw [h]; refine .inr ?_; simp [Value.ownBlock]; omega)
theorem gro_row {α : Type} {f : α → List Value} {g : Nat} {w w' : World} {v : Value} {l : List α} (h : Row f w v l) (hb : Gro g w w') (hg : ∀ j, v.ownBlock = some j → j ≠ g) : Row f w' v l := by
  obtain ⟨a, c, rfl, hc, hm, hx⟩ := h
  refine ⟨a, c, rfl, hc, hm, ?_⟩
  rcases hx with hx | ⟨b, o, rfl, hx⟩
  · exact .inl hx
  · exact .inr ⟨b, o, rfl, fun j x hj i u hu => gro_cell hb (hg b (by simp [Value.ownBlock])) (hx j x hj i u hu)⟩
end Go.Proofs.YtocommjoncchpaaGreatDoor

namespace Go.Proofs.YtocommjoncchpaaGreatDoor
open Go.RowKit

/-- The reader at block g: what is left, and whether all was right so far. -/
def RdAt (w : World) (g : Nat) (s : List UInt8) (ok : Bool) : Prop :=
  ∃ ev, w.heap[g]? = some (.cells #[S s, ev] 106 (0, 0)) ∧ ((ok = true ∧ ev = .nilIface) ∨ (ok = false ∧ ∃ b, ev = .iface 108 (.pointer (some ⟨b, 0, none⟩))))
theorem RdAt.below {w w' : World} {g : Nat} {s : List UInt8} {ok : Bool} (h : RdAt w g s ok) (hb : Below w.heap.size w w') : RdAt w' g s ok := by
  obtain ⟨ev, h1, h2⟩ := h
  exact ⟨ev, (hb.block g (heap_lt h1)).trans h1, h2⟩
end Go.Proofs.YtocommjoncchpaaGreatDoor

namespace Go.Proofs.YtocommjoncchpaaGreatDoor
open Go.RowKit

theorem okByte_true {c : UInt8} (h : okByte c = true) : ((c.toNat : Int) == 0) = false ∧ ((c.toNat : Int) == 47) = false := by
  simp only [okByte, Bool.and_eq_true, Bool.not_eq_true', beq_eq_false_iff_ne, ne_eq] at h
  constructor
  · rw [beq_eq_false_iff_ne]; intro e; exact h.1 (UInt8.toNat_inj.1 (by simpa using e))
  · rw [beq_eq_false_iff_ne]; intro e; exact h.2 (UInt8.toNat_inj.1 (by simp; omega))
theorem okByte_false {c : UInt8} (h : okByte c = false) : c = 0 ∨ c = 47 := by
  simp only [okByte, Bool.and_eq_false_iff, Bool.not_eq_false', beq_iff_eq] at h
  exact h
theorem all_take_succ (l : List UInt8) (k : Nat) (h : k < l.length) : (l.take (k + 1)).all okByte = ((l.take k).all okByte && okByte l[k]) := by
  rw [List.take_succ_eq_append_getElem h, List.all_append]; simp
theorem all_bad {l : List UInt8} {k : Nat} (h : k < l.length) (hb : okByte l[k] = false) : l.all okByte = false := by
  rw [Bool.eq_false_iff]; intro ha; rw [List.all_eq_true] at ha; have := ha _ (List.getElem_mem h); rw [hb] at this; cases this

set_option maxHeartbeats 400000 in
theorem rname_walk (l : List UInt8) (w : World) (hl : l.length ≤ 1100000) :
    Calls Tryz.prog 53 #[S l] w fun e w' => e = .returned (.bool (nameB l)) ∧ w = w' := by
  by_cases hb : (l.isEmpty || decide (31 < l.length) || l == [46] || l == [46, 46]) = true
  · have HB := Lib.hid (show nameB l = false by unfold nameB; rw [hb]; rfl)
    rw [HB.out]
    by_cases h1 : l = []
    · subst h1
      go_enter Tryz.func53, Tryz.ntmps53
      go_wp2
      go_ret
      exact ⟨rfl, rfl⟩
    · have h1' : l.isEmpty = false := by simpa using h1
      clear h1
      by_cases h2 : (31 : Int) < (l.length : Int)
      · go_enter Tryz.func53, Tryz.ntmps53
        go_wp2
        go_ret
        exact ⟨rfl, rfl⟩
      · simp only [h1', Bool.false_or, Bool.or_eq_true, decide_eq_true_eq, beq_iff_eq] at hb
        rcases hb with (hb | hb) | hb
        · omega
        · subst hb
          go_enter Tryz.func53, Tryz.ntmps53
          go_wp2
          go_ret
          exact ⟨rfl, rfl⟩
        · subst hb
          go_enter Tryz.func53, Tryz.ntmps53
          go_wp2
          go_ret
          exact ⟨rfl, rfl⟩
  · have hb' : (l.isEmpty || decide (31 < l.length) || l == [46] || l == [46, 46]) = false := by simpa using hb
    simp only [Bool.or_eq_false_iff] at hb'
    obtain ⟨⟨⟨h1, h2⟩, h3⟩, h4⟩ := hb'
    have HN := Lib.hid (show nameB l = l.all okByte by unfold nameB; rw [h1, h2, h3, h4]; rfl)
    have h2' : (l.length : Int) ≤ 31 := by simp at h2; omega
    clear hb h2
    go_enter Tryz.func53, Tryz.ntmps53
    go_wp2
    go_loop [3] (fun i => ∃ k : Nat, k ≤ l.length ∧ i = .int .i64 k ∧ (l.take k).all okByte = true) (fun i => l.length - (intOf i).toNat)
    case atStart => exact ⟨0, Nat.zero_le _, rfl, rfl⟩
    case round =>
      obtain ⟨k, hk, rfl, ha⟩ := hrel
      have HA := Lib.hid ha
      clear ha
      by_cases hlt : k < l.length
      · have HS := Lib.hid (all_take_succ l k hlt)
        cases hok : okByte l[k]
        · have HF := Lib.hid (all_bad hlt hok)
          have hc := okByte_false hok
          clear hok
          rcases hc with hc | hc
          · have hc' : (({ data := l.toArray } : ByteArray)[k]'hlt).toNat = 0 := by show (l[k]).toNat = 0; rw [hc]; rfl
            clear hc
            go_wp2
            go_ret
            exact ⟨ret_bool (by rw [HN.out, HF.out]), rfl⟩
          · have hc' : (({ data := l.toArray } : ByteArray)[k]'hlt).toNat = 47 := by show (l[k]).toNat = 47; rw [hc]; rfl
            clear hc
            go_wp2
            go_ret
            exact ⟨ret_bool (by rw [HN.out, HF.out]), rfl⟩
        · have hc0 : (((({ data := l.toArray } : ByteArray)[k]'hlt).toNat : Int) == 0) = false := (okByte_true hok).1
          have hc1 : (((({ data := l.toArray } : ByteArray)[k]'hlt).toNat : Int) == 47) = false := (okByte_true hok).2
          have HO := Lib.hid hok
          clear hok
          go_wp2
          go_round
          case rel => exact ⟨k + 1, by omega, by go_num, by rw [HS.out, HA.out, HO.out]; rfl⟩
          case measure => simp [intOf]; omega
      · go_wp2
        go_ret
        exact ⟨ret_bool (by rw [HN.out]; have := HA.out; rw [List.take_of_length_le (by omega)] at this; exact this.symm), rfl⟩
end Go.Proofs.YtocommjoncchpaaGreatDoor
