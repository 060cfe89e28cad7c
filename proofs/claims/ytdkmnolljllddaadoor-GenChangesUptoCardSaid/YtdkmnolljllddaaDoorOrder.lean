/- path.Order: strings.Split, slices.Compare, cmp.Compare. -/
import Derived.Test.YtdkmnolljllddaaDoorNames
import Derived.Lib.SplitLaws
import Derived.Sort.Walk0
namespace Go.Proofs.YtdkmnolljllddaaDoor
open Go.RowKit

theorem splitK_parts : ∀ (n : Nat) (l : List UInt8), l.length ≤ n → Lib.splitK [47] 0 (Lib.count l [47]) l = partsL l
  | 0, l, h => by
    have : l = [] := List.length_eq_zero_iff.1 (by omega)
    subst this; rfl
  | n + 1, l, h => by
    rcases index_slash l with ⟨h1, h2⟩ | ⟨h1, h2, h3⟩
    · rw [Lib.count_miss h1, partsL_noslash l h2]; rfl
    · obtain ⟨i, hi⟩ := Int.eq_ofNat_of_zero_le h1
      have ht : (Lib.index l [47]).toNat = i := by omega
      rw [ht] at h2 h3
      have hlen : (l.drop (i + 1)).length ≤ n := by
        have := congrArg List.length h2
        simp at this ⊢; omega
      have ih := splitK_parts n (l.drop (i + 1)) hlen
      rw [Lib.count_hit (by simp) hi, Nat.add_comm, Lib.splitK, if_neg (by rw [hi]; simp), ht]
      conv => rhs; rw [h2, partsL_slash _ _ h3]
      rw [← ih]; rfl

/-- strings.Split at a slash. -/
theorem ssplit_walk (l : List UInt8) (w : World) (hm : Mx w) (hl : l.length ≤ 1100000) :
    Calls Tryd.prog 63 #[S l, S [47]] w fun e w' => ∃ v, e = .returned v ∧ StrRow w' v (partsL l) ∧ Below w.heap.size w w' := by
  obtain ⟨m, hm⟩ := hm
  refine (Tryd.strings_Split ⟨l.toArray⟩ ⟨#[47]⟩ m w (by show l.length < _; omega) hm (by decide)).mono ?_
  rintro e w' ⟨rfl, rfl⟩
  have hd := Lib.splitB_data ⟨#[47]⟩ 0 (Lib.countB ⟨l.toArray⟩ ⟨#[47]⟩) ⟨l.toArray⟩
  have hp : (Lib.splitB ⟨#[47]⟩ 0 (Lib.countB ⟨l.toArray⟩ ⟨#[47]⟩) ⟨l.toArray⟩).map (·.data.toList) = partsL l := by
    rw [hd]; exact splitK_parts l.length l (Nat.le_refl _)
  have hlen := Lib.splitB_all ⟨#[47]⟩ (by decide) 0 _ ⟨l.toArray⟩ rfl
  have hc := partsL_count l
  generalize Lib.splitB ⟨#[47]⟩ 0 (Lib.countB ⟨l.toArray⟩ ⟨#[47]⟩) ⟨l.toArray⟩ = bs at *
  have hl2 : (partsL l).length = bs.length := by rw [← hp]; simp
  refine ⟨_, rfl, ⟨some ⟨w.heap.size, 0, none⟩, Lib.countB ⟨l.toArray⟩ ⟨#[47]⟩ + 1, ?_, ?_, ?_, .inr ⟨w.heap.size, 0, rfl, ?_⟩⟩, (Below.refl _ _).alloc (Nat.le_refl _) _⟩
  · rw [hl2, hlen]
  · omega
  · unfold maxLen; omega
  · intro j x hx
    rw [← hp, List.getElem?_map] at hx
    cases hb : bs[j]? with
    | none => rw [hb] at hx; cases hx
    | some y =>
      rw [hb] at hx
      simp at hx
      rw [World.cell?_alloc_at _ _ _ _ rfl]
      simp [hb, ← hx]

def cmp3 (p q : List UInt8) : Int := if p < q then -1 else if q < p then 1 else 0

set_option maxHeartbeats 1100000 in
theorem compare_walk (p q : List UInt8) (w : World) :
    Calls Tryd.prog 129 #[S p, S q] w fun e w' => e = .returned (.int .i64 (cmp3 p q)) ∧ w = w' := by
  unfold cmp3
  rcases lt_or_eq_or_gt p q with hpq | hpq | hpq
  · have HE := Lib.hid hpq
    have hbl : Op.bytesLess p q = true := by rw [bytesLess_eq]; simpa using hpq
    rw [if_pos hpq]
    clear hpq
    go_enter Tryd.func129, Tryd.ntmps129
    go_wp2
    go_ret
    exact ⟨rfl, rfl⟩
  · subst hpq
    have hbl : Op.bytesLess p p = false := by rw [bytesLess_eq]; simp
    rw [if_neg (List.lt_irrefl p), if_neg (List.lt_irrefl p)]
    go_enter Tryd.func129, Tryd.ntmps129
    go_wp2
    go_ret
    exact ⟨rfl, rfl⟩
  · have hbl : Op.bytesLess p q = false := by rw [bytesLess_eq]; simpa using List.le_of_lt hpq
    have hne : (p == q) = false := by rw [beq_eq_false_iff_ne]; intro e; rw [e] at hpq; exact List.lt_irrefl q hpq
    rw [if_neg (List.not_lt.2 (List.le_of_lt hpq)), if_pos hpq]
    clear hpq
    go_enter Tryd.func129, Tryd.ntmps129
    go_wp2
    go_ret
    exact ⟨rfl, rfl⟩

theorem cmp3_ne {p q : List UInt8} (h : p ≠ q) : cmp3 p q ≠ 0 := by
  unfold cmp3
  rcases lt_or_eq_or_gt p q with hpq | hpq | hpq
  · rw [if_pos hpq]; decide
  · exact absurd hpq h
  · rw [if_neg (List.not_lt.2 (List.le_of_lt hpq)), if_pos hpq]; decide

set_option maxHeartbeats 1100000 in
set_option maxRecDepth 100000 in
theorem scompare_walk (v v2 : Value) (xs ys : List (List UInt8)) (w : World) (hx : StrRow w v xs) (hy : StrRow w v2 ys) (hcl : xs.length ≤ 1100001) :
    Calls Tryd.prog 114 #[v, v2] w fun e w' => e = .returned (.int .i64 (cmpParts xs ys)) ∧ w = w' := by
  obtain ⟨a, c, rfl, hc, hm1, hx⟩ := hx
  obtain ⟨a2, c2, rfl, hc2, hm2, hy⟩ := hy
  have HX := Lib.hid hx
  have HY := Lib.hid hy
  clear hx hy
  go_enter Tryd.func114, Tryd.ntmps114
  go_wp2
  go_loop [11] (fun i => ∃ k : Nat, k ≤ xs.length ∧ k ≤ ys.length ∧ i = .int .i64 k ∧ cmpParts xs ys = cmpParts (xs.drop k) (ys.drop k)) (fun i => xs.length - (intOf i).toNat)
  case atStart => exact ⟨0, Nat.zero_le _, Nat.zero_le _, rfl, rfl⟩
  case round =>
    obtain ⟨k, hk, hk', rfl, hcmp⟩ := hrel
    have HC := Lib.hid hcmp
    clear hcmp
    by_cases h1 : k < xs.length
    · have hx := HX.out
      rcases hx with hx | ⟨b, o, rfl, hx⟩
      · exfalso; rw [hx] at h1; simp at h1
      have hcx := hx k xs[k] (by simp [h1])
      clear hx
      have h1' : (k : Int) < (xs.length : Int) := by omega
      by_cases h2 : k < ys.length
      · have hy := HY.out
        rcases hy with hy | ⟨b2, o2, rfl, hy⟩
        · exfalso; rw [hy] at h2; simp at h2
        have hcy := hy k ys[k] (by simp [h2])
        have HST := Lib.hid (cmpParts_step h1 h2)
        clear hy
        generalize xs[k] = p at *
        generalize ys[k] = q at *
        have h2' : ¬ (ys.length : Int) ≤ (k : Int) := by omega
        have C := compare_walk p q w
        by_cases hpq : p = q
        · subst hpq
          have e0 : cmp3 p p = 0 := by unfold cmp3; rw [if_neg (List.lt_irrefl p), if_neg (List.lt_irrefl p)]
          rw [e0] at C
          clear e0
          go_wp2_with (go_at_call 129; refine C.mono ?_; rintro e w2 ⟨rfl, rfl⟩)
          go_round
          case rel => exact ⟨k + 1, by omega, by omega, by go_num, by rw [HC.out, HST.out, if_neg (List.lt_irrefl p), if_neg (List.lt_irrefl p)]⟩
          case measure => simp [intOf]; omega
        · have hne := cmp3_ne hpq
          have HE := Lib.hid (show (if p < q then (-1 : Int) else if q < p then 1 else cmpParts (xs.drop (k + 1)) (ys.drop (k + 1))) = cmp3 p q by
            unfold cmp3
            rcases lt_or_eq_or_gt p q with h | h | h
            · rw [if_pos h, if_pos h]
            · exact absurd h hpq
            · rw [if_neg (List.not_lt.2 (List.le_of_lt h)), if_pos h, if_neg (List.not_lt.2 (List.le_of_lt h)), if_pos h])
          clear hpq
          generalize cmp3 p q = n at *
          have hn : (n == 0) = false := by rw [beq_eq_false_iff_ne]; exact hne
          have hn' : (n != 0) = true := by rw [bne_iff_ne]; exact hne
          go_wp2_with (go_at_call 129; refine C.mono ?_; rintro e w2 ⟨rfl, rfl⟩)
          go_ret
          exact ⟨ret_int (by rw [HC.out, HST.out, HE.out]), rfl⟩
      · have h2' : (ys.length : Int) ≤ (k : Int) := by omega
        have HK := Lib.hid (show ys.length ≤ k by omega)
        go_wp2
        go_ret
        exact ⟨ret_int (by rw [HC.out, cmpParts_long h1 HK.out]), rfl⟩
    · have h1' : ¬ (k : Int) < (xs.length : Int) := by omega
      have HK := Lib.hid (show xs.length ≤ k by omega)
      by_cases h2 : k < ys.length
      · have hl : (xs.length : Int) < (ys.length : Int) := by omega
        go_wp2
        go_ret
        exact ⟨ret_int (by rw [HC.out, cmpParts_short h2 HK.out]), rfl⟩
      · have hl : ¬ (xs.length : Int) < (ys.length : Int) := by omega
        go_wp2
        go_ret
        exact ⟨ret_int (by rw [HC.out, cmpParts_even HK.out (by omega)]), rfl⟩

set_option maxHeartbeats 1100000 in
theorem order_walk (l m : List UInt8) (w : World) (hM : Mx w) (hl : l.length ≤ 1100000) (hm : m.length ≤ 1100000) :
    Calls Tryd.prog 97 #[S l, S m] w fun e w' => e = .returned (.int .i64 (orderL l m)) ∧ Below w.heap.size w w' := by
  have hcl := partsL_count l
  have hcm := partsL_count m
  unfold orderL
  go_enter Tryd.func97, Tryd.ntmps97
  go_wp2_with fail
  refine (ssplit_walk l w hM hl).mono ?_
  rintro e w1 ⟨v, rfl, hr, hb⟩
  go_wp2_with fail
  refine (ssplit_walk m w1 (hM.below hb) hm).mono ?_
  rintro e w2 ⟨v2, rfl, hr2, hb2⟩
  go_wp2_with fail
  refine (scompare_walk v v2 _ _ w2 (hr.below hb2) hr2 (by omega)).mono ?_
  rintro e w3 ⟨rfl, rfl⟩
  go_wp2
  go_ret
  exact ⟨rfl, below_chain hb hb2 hb.size⟩
end Go.Proofs.YtdkmnolljllddaaDoor
