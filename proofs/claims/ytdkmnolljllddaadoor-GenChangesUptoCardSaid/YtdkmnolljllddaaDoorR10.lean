/- The reference's answers on trees: Size, Find, under, below, Same. -/
import Derived.Test.YtdkmnolljllddaaDoorItB
import Derived.Test.YtdkmnolljllddaaDoorTreePlain2
import Derived.Test.YtdkmnolljllddaaDoorRJoin
import Derived.Test.YtdkmnolljllddaaDoorJTail
namespace Go.Proofs.YtdkmnolljllddaaDoor
open Go.RowKit

theorem sizeT_step {l : List Itm} {k : Nat} (h : k < l.length) : sizeT (l.take (k + 1)) = sizeT (l.take k) + l[k].2.2.2.length := by
  rw [List.take_succ_eq_append_getElem h, sizeT_app]; simp [sizeT]
theorem sizeT_take (l : List Itm) (k : Nat) : sizeT (l.take k) ≤ sizeT l := sizeT_sub (List.take_sublist k l)
def zItm : Itm := ([], false, false, [])
/-- What Find hands out. -/
def findV (l : List Itm) (n : List UInt8) : Itm := (findT l n).getD zItm
theorem findT_at {l : List Itm} {n : List UInt8} {k : Nat} (h : k < l.length) (he : l[k].1 = n) (ht : findT (l.take k) n = none) : findT l n = some l[k] := by
  unfold findT at *
  conv => lhs; rw [← List.take_append_drop k l]
  rw [List.find?_append, ht, List.drop_eq_getElem_cons h, List.find?_cons_of_pos (by simpa using he)]
  rfl
theorem findT_step {l : List Itm} {n : List UInt8} {k : Nat} (h : k < l.length) (he : l[k].1 ≠ n) (ht : findT (l.take k) n = none) : findT (l.take (k + 1)) n = none := by
  unfold findT at *
  rw [List.take_succ_eq_append_getElem h, List.find?_append, ht]
  simp [he]

set_option maxHeartbeats 1100000 in
set_option maxRecDepth 100000 in
theorem r10size_walk (v : Value) (l : List Itm) (w : World) (hr : ItRow w v l) (hcnt : l.length ≤ 1100000) (hs : sizeT l ≤ 1000000000000) :
    Calls Tryd.prog 26 #[v] w fun e w' => e = .returned (.int .i64 (sizeT l)) ∧ Below w.heap.size w w' := by
  obtain ⟨a, c, rfl, hc, hm, hx⟩ := hr
  have HX := Lib.hid hx
  clear hx
  go_enter Tryd.func26, Tryd.ntmps26
  go_wp2
  go_loopw [3, 4] (fun n i wr => ∃ k : Nat, k ≤ l.length ∧ i = .int .i64 k ∧ n = .int .i64 (sizeT (l.take k) : Nat) ∧ Below w.heap.size w wr) (fun _ i _ => l.length - (intOf i).toNat)
  case atStart => exact ⟨0, Nat.zero_le _, rfl, rfl, Below.refl _ _⟩
  case round =>
    obtain ⟨k, hk, rfl, rfl, hB⟩ := hrel
    have HB := Lib.hid hB
    by_cases h1 : k < l.length
    · have hx := HX.out
      rcases hx with hx | ⟨b, o, rfl, hx⟩
      · exfalso; rw [hx] at h1; simp at h1
      obtain ⟨hx1, hx2, hx3, hx4⟩ := it_cells hx h1
      have hc4 := cell_below hB hx4
      have hz := sizeT_step h1
      have hz2 := sizeT_take l (k + 1)
      clear hx hx1 hx2 hx3 hx4 hB
      generalize l[k] = y at *
      obtain ⟨p, d, ex, dt⟩ := y
      have HZ := Lib.hid hz
      simp only at hz
      have h1' : (k : Int) < (l.length : Int) := by omega
      have hz3 : sizeT (l.take k) + dt.length ≤ 1000000000000 := by omega
      have HZ4 := Lib.hid hz
      clear hz hz2 HZ
      generalize sizeT (l.take k) = s at *
      go_wp2
      go_roundw
      case rel => exact ⟨k + 1, by omega, by go_num, by rw [HZ4.out]; go_num, HB.out⟩
      case measure => simp [intOf]; omega
    · have h1' : ¬ (k : Int) < (l.length : Int) := by omega
      have HK := Lib.hid (show l.take k = l from List.take_of_length_le (by omega))
      go_wp2
      go_ret
      exact ⟨by rw [HK.out]; rfl, HB.out⟩

set_option maxHeartbeats 1100000 in
set_option maxRecDepth 100000 in
theorem r10find_walk (v : Value) (l : List Itm) (n : List UInt8) (w : World) (hr : ItRow w v l) (hcnt : l.length ≤ 1100000) :
    Calls Tryd.prog 46 #[v, S n] w fun e w' => e = .returned (.tuple #[ItV (findV l n), .bool (findT l n).isSome]) ∧ Below w.heap.size w w' := by
  obtain ⟨a, c, rfl, hc, hm, hx⟩ := hr
  have HX := Lib.hid hx
  clear hx
  unfold findV
  go_enter Tryd.func46, Tryd.ntmps46
  go_wp2
  go_loopw [6] (fun i wr => ∃ k : Nat, k ≤ l.length ∧ i = .int .i64 k ∧ findT (l.take k) n = none ∧ wr.heap[w.heap.size]? = some (.cells zC 32 (0, 0)) ∧ Below w.heap.size w wr) (fun i _ => l.length - (intOf i).toNat)
  case atStart => exact ⟨0, Nat.zero_le _, rfl, rfl, heap_alloc_new _ _, (Below.refl _ _).alloc (Nat.le_refl _) _⟩
  case round =>
    obtain ⟨k, hk, rfl, ht, hZ, hB⟩ := hrel
    have HT := Lib.hid ht
    have HB := Lib.hid hB
    have HZ := Lib.hid hZ
    clear ht
    by_cases h1 : k < l.length
    · have hx := HX.out
      rcases hx with hx | ⟨b, o, rfl, hx⟩
      · exfalso; rw [hx] at h1; simp at h1
      obtain ⟨hx1, hx2, hx3, hx4⟩ := it_cells hx h1
      have hc1 := cell_below hB hx1
      have hc2 := cell_below hB hx2
      have hc3 := cell_below hB hx3
      have hc4 := cell_below hB hx4
      have HE := Lib.hid (fun he : l[k].1 = n => findT_at h1 he HT.out)
      have HN := Lib.hid (fun he : l[k].1 ≠ n => findT_step h1 he HT.out)
      clear hx hx1 hx2 hx3 hx4 hB
      generalize l[k] = y at *
      obtain ⟨p, d, ex, dt⟩ := y
      have h1' : (k : Int) < (l.length : Int) := by omega
      by_cases hpn : p = n
      · subst hpn
        have HS := Lib.hid (HE.out rfl)
        have hpp : (p == p) = true := by simp
        obtain ⟨⟨r0, r1, r2, r3⟩, ⟨f0, f1, f2, f3⟩, ⟨s0, s1, s2, s3⟩⟩ := box4 HZ.out
        have HBS := Lib.hid (below_setT (below_setT (below_setT (below_setT HB.out (Nat.le_refl _) 0 (S p)) (Nat.le_refl _) 1 (.bool d)) (Nat.le_refl _) 2 (.bool ex)) (Nat.le_refl _) 3 (S dt))
        clear hZ
        go_wp2
        refine bodyPost_ret (v := .tuple #[ItV (p, d, ex, dt), .bool true]) (by simp [results, Tryd.results46, go_sem, s0, s1, s2, s3]) rfl ?_
        exact ⟨by rw [HS.out]; rfl, HBS.out⟩
      · have HS := Lib.hid (HN.out hpn)
        have hpp : (p == n) = false := by rw [beq_eq_false_iff_ne]; exact hpn
        go_wp2
        go_roundw
        case rel => exact ⟨k + 1, by omega, by go_num, HS.out, HZ.out, HB.out⟩
        case measure => simp [intOf]; omega
    · have h1' : ¬ (k : Int) < (l.length : Int) := by omega
      have HK := Lib.hid (show findT l n = none by rw [← HT.out, List.take_of_length_le (by omega)])
      obtain ⟨⟨r0, r1, r2, r3⟩, ⟨f0, f1, f2, f3⟩, ⟨s0, s1, s2, s3⟩⟩ := box4 HZ.out
      have HBS := Lib.hid (below_setT (below_setT (below_setT (below_setT HB.out (Nat.le_refl _) 0 (.string ⟨#[]⟩)) (Nat.le_refl _) 1 (.bool false)) (Nat.le_refl _) 2 (.bool false)) (Nat.le_refl _) 3 (.string ⟨#[]⟩))
      clear hZ
      go_wp2
      refine bodyPost_ret (v := .tuple #[ItV zItm, .bool false]) (by simp [zItm, results, Tryd.results46, go_sem, s0, s1, s2, s3]) rfl ?_
      exact ⟨by rw [HK.out]; rfl, HBS.out⟩
end Go.Proofs.YtdkmnolljllddaaDoor
