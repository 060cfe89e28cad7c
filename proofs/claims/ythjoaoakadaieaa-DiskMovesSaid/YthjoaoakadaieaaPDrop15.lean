/- The machine's drop: a file is taken away. -/
import Derived.Test.YthjoaoakadaieaaPDel15
import Derived.Test.YthjoaoakadaieaaSorted
namespace Go.Proofs.Ythjoaoakadaieaa
open Go.RowKit

set_option maxHeartbeats 4000000 in
set_option maxRecDepth 100000 in
theorem drop15_walk (B b : Nat) (v : Value) (off : Bool) (fuse : Int) (l : List DF) (n : List UInt8) (w : World) (hm : MBox w b v off fuse) (hown : OwnF w B v l) (hB : B ≤ w.heap.size) (hb : b < B) (hone : ∀ x ∈ l, x.ov.oneCell' = true) (hcnt : l.length ≤ 1000000) (hup : upS (l.map DF.name)) :
    Calls Try.prog 54 #[.pointer (some ⟨b, 0, none⟩), S n] w fun e w' => e = .returned (.tuple #[]) ∧ ∃ v', MBox w' b v' off fuse ∧ OwnF w' B v' (withoutK DF.name l n) ∧ Alt B b w w' ∧ (∀ k, k < w.heap.size → v.ownBlock ≠ some k → k ≠ b → w'.heap[k]? = w.heap[k]?) := by
  have hr1 := Row.of_ownsK dfC_len hown
  have hbw : b < w.heap.size := by omega
  have C := pmat_walk b v off fuse l n w hm hr1 hcnt hup
  have HWK := Lib.hid (withoutK_up (n := n) hup)
  have HPOS := Lib.hid (fun h => pos_lt (n := n) hup h)
  generalize withoutK DF.name l n = wl at *
  obtain ⟨k, hk⟩ : ∃ k, k = posL (l.map DF.name) n := ⟨_, rfl⟩
  rw [← hk] at C HWK HPOS
  clear hk hup hr1
  obtain ⟨ya, yn, yc, rfl⟩ := own_slice hown
  by_cases hin : n ∈ l.map DF.name
  · have HW1 := Lib.hid (HWK.out.trans (by rw [if_pos hin]))
    obtain ⟨hk, hnm⟩ := HPOS.out hin
    rw [show decide (n ∈ l.map DF.name) = true by simpa using hin] at C
    clear HWK HPOS hin hnm
    have hwr : IntKind.i64.wrap ((k : Int) + 1) = (k : Int) + 1 := by rw [IntKind.wrap_i64]; omega
    go_enter Try.func54, Try.ntmps54
    go_wp2_with fail
    refine C.mono ?_
    rintro e w1 ⟨rfl, hb1⟩
    have hm2 := heap_later hm hb1 hbw
    have hc0 := heap_cell hm2 (j := 0) (v := .slice ya yn yc) rfl
    have hown1 : OwnF w1 B (.slice ya yn yc) l := own_keep hown (fun i h1 h2 => hb1.block i h2)
    have hz1 := hb1.size
    have C2 := delDF_walk B (.slice ya yn yc) l k w1 hown1 hk hcnt (by omega) hone
    clear C
    go_wp2_with fail
    refine C2.mono ?_
    rintro e w2 ⟨v2, rfl, hown2, hb2, hrs2⟩
    obtain ⟨va, vn, vc, rfl⟩ := own_slice hown2
    have hm3 : MBox w2 b (.slice ya yn yc) off fuse := (hb2.block b hb).trans hm2
    have hc1 := heap_cell hm3 (j := 0) (v := .slice ya yn yc) rfl
    have hf1 := heap_free hm3 0
    have HFIN := Lib.hid (own_set (o := 0) (u := .slice va vn vc) hown2 hb)
    have HM := Lib.hid (mbox_set hm3 (.slice va vn vc))
    have HAL := Lib.hid (((Alt.of_below (hb1.mono hB) hb).trans (Alt.of_below hb2 hb)).setCell 0 (.slice va vn vc))
    clear C2 hown2 hm3 hown1 hm2
    try go_wp2
    go_end0
    refine ⟨rfl, _, HM.out, by rw [HW1.out]; exact HFIN.out, HAL.out, fun i hi hne hib => ?_⟩
    exact (Below.heap_setCell _ _ _ _ hib).trans ((hrs2 i (by omega) hne).trans (hb1.block i hi))
  · have HW1 := Lib.hid (HWK.out.trans (by rw [if_neg hin, List.take_append_drop]))
    rw [show decide (n ∈ l.map DF.name) = false by simpa using hin] at C
    clear HWK HPOS hin
    go_enter Try.func54, Try.ntmps54
    go_wp2_with fail
    refine C.mono ?_
    rintro e w1 ⟨rfl, hb1⟩
    have HM := Lib.hid (heap_later hm hb1 hbw)
    have HFIN := Lib.hid (show OwnF w1 B (.slice ya yn yc) l from own_keep hown (fun i h1 h2 => hb1.block i h2))
    have HAL := Lib.hid (Alt.of_below (hb1.mono hB) hb)
    clear C
    try go_wp2
    go_end0
    exact ⟨rfl, _, HM.out, by rw [HW1.out]; exact HFIN.out, HAL.out, fun i hi _ _ => hb1.block i hi⟩
end Go.Proofs.Ythjoaoakadaieaa
