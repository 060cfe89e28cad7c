/- The reference Find of trees. The reference's Order. -/
import Derived.Test.YtaompdnnkfmjhaaGreatDoorJRFile12
import Derived.Test.YtaompdnnkfmjhaaGreatDoorJTwo14C
import Derived.Test.YtaompdnnkfmjhaaGreatDoorJPlain
import Derived.Sort.Walk0
namespace Go.Proofs.YtaompdnnkfmjhaaGreatDoor
open Go.RowKit


theorem sizeT_step {l : List Itm} {k : Nat} (h : k < l.length) : sizeT (l.take (k + 1)) = sizeT (l.take k) + l[k].2.2.2.length := by
  rw [List.take_succ_eq_append_getElem h, sizeT_app]; simp [sizeT]
theorem sizeT_take (l : List Itm) (k : Nat) : sizeT (l.take k) ≤ sizeT l := sizeT_sub (List.take_sublist k l)
def zItm : Itm := ([], false, false, [])
/-- What Find hands out. -/
def findV (l : List Itm) (n : List UInt8) : Itm := (findT l n).getD zItm
theorem findT_at {l : List Itm} {n : List UInt8} {k : Nat} (h : k < l.length) (he : l[k].1 = n) (ht : findT (l.take k) n = none) : findT l n = some l[k] := by
  unfold findT at *
  conv => lhs; rw [← List.take_append_drop k l]
  rw [List.find?_append, ht, List.drop_eq_getElem_cons h, List.find?_cons_of_pos (by simpa using he)]
  rfl
theorem findT_step {l : List Itm} {n : List UInt8} {k : Nat} (h : k < l.length) (he : l[k].1 ≠ n) (ht : findT (l.take k) n = none) : findT (l.take (k + 1)) n = none := by
  unfold findT at *
  rw [List.take_succ_eq_append_getElem h, List.find?_append, ht]
  simp [he]

set_option maxHeartbeats 1100000 in
set_option maxRecDepth 100000 in
theorem r10find_walk (v : Value) (l : List Itm) (n : List UInt8) (w : World) (hr : ItRow w v l) (hcnt : l.length ≤ 1100000) :
    Calls Tryz.prog 111 #[v, S n] w fun e w' => e = .returned (.tuple #[ItV (findV l n), .bool (findT l n).isSome]) ∧ Below w.heap.size w w' := by
  obtain ⟨a, c, rfl, hc, hm, hx⟩ := hr
  have HX := Lib.hid hx
  clear hx
  unfold findV
  go_enter Tryz.func111, Tryz.ntmps111
  go_wp2
  go_loopw [6] (fun i wr => ∃ k : Nat, k ≤ l.length ∧ i = .int .i64 k ∧ findT (l.take k) n = none ∧ wr.heap[w.heap.size]? = some (.cells zC 65 (0, 0)) ∧ Below w.heap.size w wr) (fun i _ => l.length - (intOf i).toNat)
  case atStart => exact ⟨0, Nat.zero_le _, rfl, rfl, heap_alloc_new _ _, (Below.refl _ _).alloc (Nat.le_refl _) _⟩
  case round =>
    obtain ⟨k, hk, rfl, ht, hZ, hB⟩ := hrel
    have HT := Lib.hid ht
    have HB := Lib.hid hB
    have HZ := Lib.hid hZ
    clear ht
    by_cases h1 : k < l.length
    · have hx := HX.out
      rcases hx with hx | ⟨b, o, rfl, hx⟩
      · exfalso; rw [hx] at h1; simp at h1
      obtain ⟨hx1, hx2, hx3, hx4⟩ := it_cells hx h1
      have hc1 := cell_below hB hx1
      have hc2 := cell_below hB hx2
      have hc3 := cell_below hB hx3
      have hc4 := cell_below hB hx4
      have HE := Lib.hid (fun he : l[k].1 = n => findT_at h1 he HT.out)
      have HN := Lib.hid (fun he : l[k].1 ≠ n => findT_step h1 he HT.out)
      clear hx hx1 hx2 hx3 hx4 hB
      generalize l[k] = y at *
      obtain ⟨p, d, ex, dt⟩ := y
      have h1' : (k : Int) < (l.length : Int) := by omega
      by_cases hpn : p = n
      · subst hpn
        have HS := Lib.hid (HE.out rfl)
        have hpp : (p == p) = true := by simp
        obtain ⟨⟨r0, r1, r2, r3⟩, ⟨f0, f1, f2, f3⟩, ⟨s0, s1, s2, s3⟩⟩ := box4 HZ.out
        have HBS := Lib.hid (below_setT (below_setT (below_setT (below_setT HB.out (Nat.le_refl _) 0 (S p)) (Nat.le_refl _) 1 (.bool d)) (Nat.le_refl _) 2 (.bool ex)) (Nat.le_refl _) 3 (S dt))
        clear hZ
        go_wp2
        refine bodyPost_ret (v := .tuple #[ItV (p, d, ex, dt), .bool true]) (by simp [results, Tryz.results111, go_sem, s0, s1, s2, s3]) rfl ?_
        exact ⟨by rw [HS.out]; rfl, HBS.out⟩
      · have HS := Lib.hid (HN.out hpn)
        have hpp : (p == n) = false := by rw [beq_eq_false_iff_ne]; exact hpn
        go_wp2
        go_roundw
        case rel => exact ⟨k + 1, by omega, by go_num, HS.out, HZ.out, HB.out⟩
        case measure => simp [intOf]; omega
    · have h1' : ¬ (k : Int) < (l.length : Int) := by omega
      have HK := Lib.hid (show findT l n = none by rw [← HT.out, List.take_of_length_le (by omega)])
      obtain ⟨⟨r0, r1, r2, r3⟩, ⟨f0, f1, f2, f3⟩, ⟨s0, s1, s2, s3⟩⟩ := box4 HZ.out
      have HBS := Lib.hid (below_setT (below_setT (below_setT (below_setT HB.out (Nat.le_refl _) 0 (.string ⟨#[]⟩)) (Nat.le_refl _) 1 (.bool false)) (Nat.le_refl _) 2 (.bool false)) (Nat.le_refl _) 3 (.string ⟨#[]⟩))
      clear hZ
      go_wp2
      refine bodyPost_ret (v := .tuple #[ItV zItm, .bool false]) (by simp [zItm, results, Tryz.results111, go_sem, s0, s1, s2, s3]) rfl ?_
      exact ⟨by rw [HK.out]; rfl, HBS.out⟩

end Go.Proofs.YtaompdnnkfmjhaaGreatDoor

namespace Go.Proofs.YtaompdnnkfmjhaaGreatDoor
open Go.RowKit

set_option maxHeartbeats 1100000 in
set_option maxRecDepth 100000 in
theorem rorder_walk (l m : List UInt8) (w : World) (hl : l.length ≤ 1100000) (hm : m.length ≤ 1100000) :
    Calls Tryz.prog 87 #[S l, S m] w fun e w' => e = .returned (.int .i64 (cmpParts (partsL l) (partsL m))) ∧ Below w.heap.size w w' := by
  have C := rparts_walk l w hl
  have C' := fun w1 => rparts_walk m w1 hm
  have hcl := partsL_count l
  have hcm := partsL_count m
  generalize partsL l = xs at C hcl ⊢
  generalize partsL m = ys at C' hcm ⊢
  go_enter Tryz.func87, Tryz.ntmps87
  go_wp2_with fail
  refine C.mono ?_
  rintro e w1 ⟨v, rfl, hrx, hb⟩
  go_wp2_with fail
  refine (C' _).mono ?_
  rintro e w2 ⟨v2, rfl, ⟨a2, c2, rfl, hc2, hm2, hy⟩, hb2⟩
  obtain ⟨a, c, rfl, hc, hm1, hx⟩ := hrx.below hb2
  have HB := Lib.hid (below_chain hb hb2 hb.size)
  have HX := Lib.hid hx
  have HY := Lib.hid hy
  clear hx hy hb hb2 hrx C C'
  go_wp2
  go_loopw [7] (fun i wr => ∃ k : Nat, k ≤ xs.length ∧ k ≤ ys.length ∧ i = .int .i64 k ∧ Below w2.heap.size w2 wr ∧ cmpParts xs ys = cmpParts (xs.drop k) (ys.drop k)) (fun i _ => xs.length - (intOf i).toNat)
  case atStart => exact ⟨0, Nat.zero_le _, Nat.zero_le _, rfl, Below.refl _ _, rfl⟩
  case round =>
    obtain ⟨k, hk, hk', rfl, hbr, hcmp⟩ := hrel
    have HC := Lib.hid hcmp
    have HBR := Lib.hid hbr
    have HBB := Lib.hid (below_chain HB.out hbr HB.out.size)
    clear hcmp
    by_cases h1 : k < xs.length
    · by_cases h2 : k < ys.length
      · have hx := HX.out
        rcases hx with hx | ⟨b, o, rfl, hx⟩
        · exfalso; rw [hx] at h1; simp at h1
        have hy := HY.out
        rcases hy with hy | ⟨b2, o2, rfl, hy⟩
        · exfalso; rw [hy] at h2; simp at h2
        have hcx := cell_below hbr (hx k xs[k] (by simp [h1]))
        have hcy := cell_below hbr (hy k ys[k] (by simp [h2]))
        have HST := Lib.hid (cmpParts_step h1 h2)
        clear hx hy hbr
        generalize xs[k] = p at *
        generalize ys[k] = q at *
        have h1' : (k : Int) < (xs.length : Int) := by omega
        have h2' : (k : Int) < (ys.length : Int) := by omega
        rcases lt_or_eq_or_gt p q with hpq | hpq | hpq
        · have HE := Lib.hid hpq
          have hbl : Op.bytesLess p q = true := by rw [bytesLess_eq]; simpa using hpq
          clear hpq
          go_wp2
          go_quiet (fail)
          go_wp2
          go_ret
          exact ⟨ret_int (by rw [HC.out, HST.out, if_pos HE.out]), belowN HBB.out _⟩
        · subst hpq
          have hbl : Op.bytesLess p p = false := by rw [bytesLess_eq]; simp
          go_wp2
          go_quiet (fail)
          go_wp2
          go_quiet (fail)
          go_wp2
          go_roundw
          case rel => exact ⟨k + 1, by omega, by omega, by go_num, belowN HBR.out _, by rw [HC.out, HST.out, if_neg (List.lt_irrefl p), if_neg (List.lt_irrefl p)]⟩
          case measure => simp [intOf]; omega
        · have HE := Lib.hid hpq
          have hbl : Op.bytesLess p q = false := by rw [bytesLess_eq]; simpa using List.le_of_lt hpq
          have hne : (p == q) = false := by rw [beq_eq_false_iff_ne]; intro e; rw [e] at hpq; exact List.lt_irrefl q hpq
          have HLE := Lib.hid (show ¬ p < q from List.not_lt.2 (List.le_of_lt hpq))
          clear hpq
          go_wp2
          go_quiet (fail)
          go_wp2
          go_quiet (fail)
          go_wp2
          go_ret
          exact ⟨ret_int (by rw [HC.out, HST.out, if_neg HLE.out, if_pos HE.out]), belowN (belowN HBB.out _) _⟩
      · have hke : k = ys.length := by omega
        have hl : (ys.length : Int) < (xs.length : Int) := by omega
        have h1' : (k : Int) < (xs.length : Int) := by omega
        have h2' : ¬ (k : Int) < (ys.length : Int) := by omega
        have HK := Lib.hid hke
        clear hke hbr
        go_wp2
        go_ret
        exact ⟨ret_int (by rw [HC.out, cmpParts_long h1 (Nat.le_of_eq HK.out.symm)]), HBB.out⟩
    · have hke : k = xs.length := by omega
      have h1' : ¬ (k : Int) < (xs.length : Int) := by omega
      have HK := Lib.hid hke
      clear hbr
      by_cases h2 : k < ys.length
      · have hl : (xs.length : Int) < (ys.length : Int) := by omega
        clear hke
        go_wp2
        go_ret
        exact ⟨ret_int (by rw [HC.out, cmpParts_short h2 (Nat.le_of_eq HK.out.symm)]), HBB.out⟩
      · have hl : (xs.length : Int) = (ys.length : Int) := by omega
        have hl1 : ¬ (xs.length : Int) < (ys.length : Int) := by omega
        have hl2 : ¬ (ys.length : Int) < (xs.length : Int) := by omega
        clear hl hke
        go_wp2
        go_ret
        exact ⟨ret_int (by rw [HC.out, cmpParts_even (Nat.le_of_eq HK.out.symm) (by omega)]), HBB.out⟩
end Go.Proofs.YtaompdnnkfmjhaaGreatDoor
