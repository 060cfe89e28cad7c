/- The program's Drop of trees. -/
import Derived.Test.YtnegnjagiejncaaDoorPT10
import Derived.Test.YtnegnjagiejncaaDoorCloItem
import Derived.Test.YtnegnjagiejncaaDoorDelItem
namespace Go.Proofs.YtnegnjagiejncaaDoor
open Go.RowKit

theorem prefix_below (y n : List UInt8) : Lib.hasPrefix y (n ++ [47]) = belowT y n := by
  unfold Lib.hasPrefix
  rw [Bool.eq_iff_iff, List.isPrefixOf_iff_prefix, belowT_iff]
  constructor
  · rintro ⟨t, rfl⟩; exact ⟨t, by simp⟩
  · rintro ⟨t, rfl⟩; exact ⟨t, by simp⟩

set_option maxHeartbeats 1000000 in
set_option maxRecDepth 100000 in
theorem pdropx_walk (x : Itm) (n : List UInt8) (b : Nat) (w : World) (hc : w.cell? ⟨b, 0, none⟩ = some (S n)) (hn : n.length ≤ 1000000) :
    Calls Tryd.prog 48 (#[ItV x] ++ #[.pointer (some ⟨b, 0, none⟩)]) w fun e w' => e = .returned (.bool (x.1 == n || belowT x.1 n)) ∧ Below w.heap.size w w' := by
  obtain ⟨p, dd, ex, dt⟩ := x
  have hb0 : Below w.heap.size w (w.alloc (.cells #[S p, .bool dd, .bool ex, S dt] 32)) := (Below.refl _ _).alloc (Nat.le_refl _) _
  have HB := Lib.hid hb0
  have hc2 := cell_below hb0 hc
  clear hb0
  have r0 := cell_new w #[S p, .bool dd, .bool ex, S dt] 32 0 rfl
  have C := fun w => Tryd.strings_HasPrefix ⟨p.toArray⟩ ⟨(n ++ [47]).toArray⟩ w
  have hcat : (⟨n.toArray⟩ : ByteArray) ++ (⟨#[47]⟩ : ByteArray) = ⟨(n ++ [47]).toArray⟩ := ba_cat n [47]
  have HP := Lib.hid (show Lib.hasPrefix (⟨p.toArray⟩ : ByteArray).data.toList (⟨(n ++ [47]).toArray⟩ : ByteArray).data.toList = belowT p n from prefix_below p n)
  generalize Lib.hasPrefix (⟨p.toArray⟩ : ByteArray).data.toList (⟨(n ++ [47]).toArray⟩ : ByteArray).data.toList = hp at *
  show Calls Tryd.prog _ #[.agg #[S p, .bool dd, .bool ex, S dt], .pointer (some ⟨b, 0, none⟩)] _ _
  cases hpn : (p == n) with
  | true =>
    go_enter Tryd.func48, Tryd.ntmps48
    go_wp2
    go_ret
    exact ⟨rfl, HB.out⟩
  | false =>
    go_enter Tryd.func48, Tryd.ntmps48
    go_wp2_with (go_at_call 49; refine (C _).mono ?_; rintro e w1 ⟨rfl, hw9⟩; rw [hw9]; clear hw9 w1)
    go_ret
    exact ⟨by rw [← HP.out]; rfl, HB.out⟩

set_option maxHeartbeats 2000000 in
set_option maxRecDepth 100000 in
theorem pdrop10_walk (v : Value) (l : List Itm) (n : List UInt8) (w : World) (hr : ItRow w v l) (hcnt : l.length ≤ 1000000) (hu : upT (l.map (·.1))) (hM : Mx w) (hn : n.length ≤ 1000000) (hpl : ∀ x ∈ l, x.1.length ≤ 1000000) :
    Calls Tryd.prog 20 #[v, S n] w fun e w' => ∃ v', e = .returned (.tuple #[v', .int .i64 (dropT l n).2]) ∧ ItRow w' v' (dropT l n).1 ∧ Below w.heap.size w w' := by
  have hB0 : Below w.heap.size w (w.alloc (.cells #[S n] 9)) := (Below.refl _ _).alloc (Nat.le_refl _) _
  obtain ⟨w1, hw1, hB1, hc1, hs1⟩ : ∃ w1, w1 = w.alloc (.cells #[S n] 9) ∧ Below w.heap.size w w1 ∧ w1.cell? ⟨w.heap.size, 0, none⟩ = some (S n) ∧ w1.heap.size = w.heap.size + 1 :=
    ⟨_, rfl, hB0, cell_new w #[S n] 9 0 rfl, by simp⟩
  have hr1 := hr.below hB1
  have CF := pfind10_walk v l n w1 hr1 hcnt hu (hM.below hB1) hn hpl
  have HD := Lib.hid (show dropT l n = if (findT l n).isNone = true then (l, 5) else (dropL l n, 0) from rfl)
  have HDL := Lib.hid (show dropL l n = l.filter (fun x => !(x.1 == n || belowT x.1 n)) by unfold dropL; congr 1; funext x; simp)
  unfold findV at CF
  generalize dropT l n = de at *
  generalize dropL l n = dl at *
  have HR1 := Lib.hid hr1
  obtain ⟨a, c, rfl, hc, hm, hx⟩ := hr
  clear hx hr1
  cases hf : findT l n with
  | none =>
    rw [hf] at HD CF
    have HD1 := Lib.hid (HD.out.trans (if_pos rfl))
    simp only [Option.getD_none, Option.isSome_none] at CF
    go_enter Tryd.func20, Tryd.ntmps20
    go_upto_region 1 with fail
    rw [← hw1]
    clear hw1
    go_wp2_with fail
    refine CF.mono ?_
    rintro e w2 ⟨rfl, hb2⟩
    obtain ⟨⟨r0, r1, r2, r3⟩, ⟨f0, f1, f2, f3⟩, ⟨s0, s1, s2, s3⟩⟩ := box4 (heap_alloc_new w2 (.cells zC 32))
    go_wp2
    go_ret2
    have hB2 := (below_chain hB1 hb2 hB1.size)
    exact ⟨_, by rw [HD1.out]; rfl, by rw [HD1.out]; exact (HR1.out.below hb2).below ((Below.refl _ _).alloc (Nat.le_refl _) _), hB2.alloc hB2.size _⟩
  | some r =>
    rw [hf] at HD CF
    have HD1 := Lib.hid (HD.out.trans (if_neg (by simp)))
    obtain ⟨rp, rd, re, rt⟩ := r
    simp only [Option.getD_some, Option.isSome_some] at CF
    go_enter Tryd.func20, Tryd.ntmps20
    go_upto_region 1 with fail
    rw [← hw1]
    clear hw1
    go_wp2_with fail
    refine CF.mono ?_
    rintro e w2 ⟨rfl, hb2⟩
    have hc2 := cell_below hb2 hc1
    have hB2 := below_chain hB1 hb2 hB1.size
    have hr2 := HR1.out.below hb2
    have hb3 : Below w2.heap.size w2 (w2.alloc (.cells #[S rp, .bool rd, .bool re, S rt] 32)) := (Below.refl _ _).alloc (Nat.le_refl _) _
    have hc3 := cell_below hb3 hc2
    have hB3 := below_chain hB2 hb3 hB2.size
    have hr3 := hr2.below hb3
    have hs2 := hb2.size
    have CC := cloItm_walk (w.heap.size + 1) a l.length c (l.flatMap itC) (w2.alloc (.cells #[S rp, .bool rd, .bool re, S rt] 32)) (by simp; omega) hcnt (flat_lenK (f := itC) (K := 4) (fun _ => rfl) l) (row_flatK (K := 4) (fun _ => rfl) (by decide) hr3) (it_one l)
    clear hb3 hr2 hc2 CF hb2
    go_wp2_with fail
    refine CC.mono ?_
    rintro e w4 ⟨v4, rfl, hown4, hb4⟩
    have hc4 := (hb4.cell (p := ⟨w.heap.size, 0, none⟩) (by simp)).trans hc3
    have hs4 := hb4.size
    have hsz4 : w.heap.size + 1 ≤ w4.heap.size := by simp at hs4; omega
    have hB4 : Below w.heap.size w w4 := hB3.trans (hb4.mono (by omega))
    have hrow4 := Row.of_ownsK (K := 4) (f := itC) (fun _ => rfl) hown4
    have HDEL := Lib.hid (delItm_walk 48 #[.pointer (some ⟨w.heap.size, 0, none⟩)] (fun x => x.1 == n || belowT x.1 n) (w.heap.size + 1) v4 l w4 hown4 hcnt hsz4 (enters_of Tryd.func48 (by kernel_rfl) rfl) hrow4
      (fun x w' h => pdropx_walk x n w.heap.size w' ((h.cell (p := ⟨w.heap.size, 0, none⟩) (by simp)).trans hc4) hn))
    clear hown4 hrow4 hb4 CC
    go_wp2_with fail
    refine HDEL.out.mono ?_
    rintro e w5 ⟨v5, rfl, hown5, hb5⟩
    have HO := Lib.hid (Row.of_ownsK (K := 4) (f := itC) (fun _ => rfl) hown5)
    clear hown5
    go_wp2
    go_ret2
    exact ⟨_, by rw [HD1.out]; rfl, by rw [HD1.out]; simp only; rw [HDL.out]; exact HO.out, hB4.trans (hb5.mono (by omega))⟩
end Go.Proofs.YtnegnjagiejncaaDoor
