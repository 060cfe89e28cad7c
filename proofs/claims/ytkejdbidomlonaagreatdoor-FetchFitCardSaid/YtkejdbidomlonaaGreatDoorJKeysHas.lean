/- The reference Has of keys. The reference's sets of keys: a set and one more. A set of keys out of keys: by one more each, and sorted and without repeats. The keys that a node names: plain. -/
import Derived.Test.YtkejdbidomlonaaGreatDoorJKeysP
import Derived.Lib.SlicesCompact
import Derived.Test.YtkejdbidomlonaaGreatDoorNodePlain
namespace Go.Proofs.YtkejdbidomlonaaGreatDoor
open Go.RowKit


set_option maxHeartbeats 2000000 in
set_option maxRecDepth 100000 in
theorem rhas_walk (v : Value) (xs : List (List UInt8)) (k : List UInt8) (w : World) (hr : StrRow w v xs) (hcnt : xs.length ≤ 1100000) :
    Calls Tryz.prog 86 #[v, S k] w fun e w' => e = .returned (.bool (decide (k ∈ xs))) ∧ Below w.heap.size w w' := by
  obtain ⟨a, c, rfl, hc, hm, hx⟩ := hr
  have HX := Lib.hid hx
  have HT := Lib.hid (fun (h : k ∈ xs) => decide_eq_true h)
  have HF := Lib.hid (fun (h : ¬ k ∈ xs) => decide_eq_false h)
  generalize decide (k ∈ xs) = res at *
  clear hx
  go_enter Tryz.func86, Tryz.ntmps86
  go_wp2
  go_loopw [5] (fun i wr => ∃ j : Nat, j ≤ xs.length ∧ i = .int .i64 j ∧ (∀ x ∈ xs.take j, x ≠ k) ∧ Below w.heap.size w wr) (fun i _ => xs.length - (intOf i).toNat)
  case atStart => exact ⟨0, Nat.zero_le _, rfl, by simp, Below.refl _ _⟩
  case round =>
    obtain ⟨j, hj, rfl, hall, hB⟩ := hrel
    have HALL := Lib.hid hall
    clear hall
    by_cases h1 : j < xs.length
    · have h1' : (j : Int) < (xs.length : Int) := by omega
      have hx := HX.out
      rcases hx with hx | ⟨b, o, rfl, hx⟩
      · exfalso; rw [hx] at h1; simp at h1
      have hc1 := cell_below hB (str_cell hx h1)
      clear hx
      by_cases hq : xs[j] = k
      · have HR := Lib.hid (HT.out (by rw [← hq]; exact List.getElem_mem h1))
        have hq' : (xs[j] == k) = true := by rw [beq_iff_eq]; exact hq
        clear hq
        generalize xs[j] = y at *
        go_wp2
        go_ret
        exact ⟨by rw [HR.out]; rfl, hB⟩
      · have HN := Lib.hid (show ∀ x ∈ xs.take (j + 1), x ≠ k from fun x hx => by
          rw [List.take_succ_eq_append_getElem h1, List.mem_append] at hx
          rcases hx with hx | hx
          · exact HALL.out x hx
          · simp only [List.mem_singleton] at hx; rw [hx]; exact hq)
        have hq' : (xs[j] == k) = false := by rw [beq_eq_false_iff_ne]; exact hq
        clear hq
        generalize xs[j] = y at *
        go_wp2
        go_roundw
        case rel => exact ⟨j + 1, by omega, by go_num, HN.out, hB⟩
        case measure => simp [intOf]; omega
    · have h1' : ¬ (j : Int) < (xs.length : Int) := by omega
      have HR := Lib.hid (HF.out (fun h => by
        have h2 := HALL.out
        rw [List.take_of_length_le (by omega)] at h2
        exact h2 k h rfl))
      go_wp2
      go_ret
      exact ⟨by rw [HR.out]; rfl, hB⟩

end Go.Proofs.YtkejdbidomlonaaGreatDoor

namespace Go.Proofs.YtkejdbidomlonaaGreatDoor
open Go.RowKit

set_option maxHeartbeats 4000000 in
set_option maxRecDepth 100000 in
theorem radd2_walk (v : Value) (l : List (List UInt8)) (k : List UInt8) (w : World) (hr : StrRow w v l) (hcnt : l.length ≤ 1100000) (hup : upS l) :
    Calls Tryz.prog 63 #[v, S k] w fun e w' => ∃ v', e = .returned v' ∧ (addL l k = l ∧ v' = v ∨ w'.ownsRow w.heap.size 9 1 v' (addL l k).length ((addL l k).map S)) ∧ Below w.heap.size w w' := by
  have C := rhas_walk v l k w hr hcnt
  by_cases hin : k ∈ l
  · have HA := Lib.hid (show addL l k = l from if_pos hin)
    rw [decide_eq_true hin] at C
    clear hin hup
    go_enter Tryz.func63, Tryz.ntmps63
    go_wp2_with (go_at_call 86; refine (C).mono ?_; rintro e w1 ⟨rfl, hb1⟩)
    go_ret
    exact ⟨_, rfl, .inl ⟨HA.out, rfl⟩, hb1⟩
  have HA := Lib.hid (show addL l k = withK id l k from if_neg hin)
  rw [decide_eq_false hin] at C
  obtain ⟨a, c, rfl, hc, hm, hx⟩ := hr
  have HX := Lib.hid hx
  have HUP := Lib.hid hup
  have HIN := Lib.hid hin
  clear hx hup hin
  obtain ⟨i0, hi, hz0, hz1, hz2⟩ := info_parts infoStr
  go_enter Tryz.func63, Tryz.ntmps63
  go_wp2_with fail
  refine C.mono ?_
  rintro e w0 ⟨rfl, hB0⟩
  go_wp2
  go_loopw [5, 6, 7] (fun v d i wr => ∃ (n : Nat) (out : List (List UInt8)), n ≤ l.length ∧ i = .int .i64 n ∧ AddSt l k n d out ∧ wr.ownsRow w0.heap.size 9 1 v out.length (out.map S) ∧ out.length ≤ n + 1 ∧ Below w0.heap.size w0 wr) (fun _ _ i _ => l.length - (intOf i).toNat)
  case atStart => exact ⟨0, [], Nat.zero_le _, rfl, add_start _ _, World.ownsRow_nil _ _ _ _, by simp, Below.refl _ _⟩
  case round =>
    obtain ⟨n, out, hn, rfl, hst, hown, hdk, hB⟩ := hrel
    have hsz := hB.size
    have hBw := below_chain hB0 hB hB0.size
    by_cases h1 : n < l.length
    · have hx := HX.out
      rcases hx with hx | ⟨b, o, rfl, hx⟩
      · exfalso; rw [hx] at h1; simp at h1
      have hc1 := cell_below hBw (str_cell hx h1)
      obtain ⟨y, hy⟩ : ∃ y, l[n] = y := ⟨_, rfl⟩
      have hyk : y ≠ k := fun e => HIN.out (by rw [← e, ← hy]; exact List.getElem_mem h1)
      have HST := Lib.hid hst
      have HY := Lib.hid hy
      rw [hy] at hc1
      clear hx hy
      have h1' : (n : Int) < (l.length : Int) := by omega
      have hcase : (u6 = .bool false) ∨ (u6 = .bool true) := by
        rcases hst with ⟨h, _⟩ | ⟨h, _⟩
        · exact .inl h
        · exact .inr h
      clear hst
      rcases hcase with rfl | rfl
      · have hdk2 : out.length ≤ n := by
          rcases HST.out with ⟨_, h, _⟩ | ⟨h, _⟩
          · rw [h, List.length_take]; omega
          · cases h
        rcases three_ways y k with ⟨_, hlt, hbl, _, hne⟩ | ⟨_, heq, hbl, _, hne⟩ | ⟨_, hlt, hbl, hbl2, hne⟩
        · have HS := Lib.hid (add_less h1 HY.out HST.out hlt)
          clear hlt HST hyk
          go_wp2_with (at_builtin; refine wpList_append_own _ rfl _ _ 38 rfl w0.heap.size 9 i0 (.string ⟨#[]⟩) 1 16 Tryz.underlying38 hi hz0 hz1 hz2 rfl (by decide) _ _ _ rfl (hown.alloc _) ⟨wr.heap.size, 0, none⟩ 1 1 [S y] rfl rfl (new_cell_at rfl _ _) (s_one _) (by unfold maxLen; omega) (by omega) (by rw [World.size_alloc]; omega) ?_)
          intro v' w1 hown' hgrow _
          have hB1 : Below w0.heap.size w0 w1 := (hB.alloc hsz _).grown hgrow (by rw [World.size_alloc]; omega) (fun j hj => (hown.lt j hj).1)
          clear hgrow hown hB hc1
          go_wp2
          go_roundw
          case rel => exact ⟨n + 1, _, by omega, by go_num, HS.out, by simpa using hown', by simp; omega, hB1⟩
          case measure => simp [intOf]; omega
        · exact absurd heq hyk
        · have HS := Lib.hid (add_put h1 HY.out HST.out hlt)
          clear hlt HST hyk
          go_wp2_with (at_builtin; refine wpList_append_own _ rfl _ _ 38 rfl w0.heap.size 9 i0 (.string ⟨#[]⟩) 1 16 Tryz.underlying38 hi hz0 hz1 hz2 rfl (by decide) _ _ _ rfl (hown.alloc _) ⟨wr.heap.size, 0, none⟩ 1 1 [S k] rfl rfl (new_cell_at rfl _ _) (s_one _) (by unfold maxLen; omega) (by omega) (by rw [World.size_alloc]; omega) ?_)
          intro v' w1 hown' hgrow _
          have hB1 : Below w0.heap.size w0 w1 := (hB.alloc hsz _).grown hgrow (by rw [World.size_alloc]; omega) (fun j hj => (hown.lt j hj).1)
          have hsz1 := hB1.size
          have hBw1 := below_chain hB0 hB1 hB0.size
          have hx := HX.out
          rcases hx with hx | ⟨b2, o2, hbo, hx⟩
          · exfalso; rw [hx] at h1; simp at h1
          cases hbo
          have hc2 := cell_below hBw1 (str_cell hx h1)
          rw [HY.out] at hc2
          clear hx hgrow hown hB hc1
          go_wp2_with (at_builtin; refine wpList_append_own _ rfl _ _ 38 rfl w0.heap.size 9 i0 (.string ⟨#[]⟩) 1 16 Tryz.underlying38 hi hz0 hz1 hz2 rfl (by decide) _ _ _ rfl (hown'.alloc _) ⟨w1.heap.size, 0, none⟩ 1 1 [S y] rfl rfl (new_cell_at rfl _ _) (s_one _) (by unfold maxLen; omega) (by omega) (by rw [World.size_alloc]; omega) ?_)
          intro v'' w2 hown2 hgrow2 _
          have hB2 : Below w0.heap.size w0 w2 := (hB1.alloc hsz1 _).grown hgrow2 (by rw [World.size_alloc]; omega) (fun j hj => (hown'.lt j hj).1)
          clear hgrow2 hown' hB1
          go_wp2
          go_roundw
          case rel => exact ⟨n + 1, _, by omega, by go_num, HS.out, by simpa using hown2, by simp; omega, hB2⟩
          case measure => simp [intOf]; omega
      · obtain ⟨hlt, hS⟩ := add_on HUP.out h1 HY.out HST.out
        have HS := Lib.hid hS
        clear hlt hS HST hyk
        go_wp2_with (at_builtin; refine wpList_append_own _ rfl _ _ 38 rfl w0.heap.size 9 i0 (.string ⟨#[]⟩) 1 16 Tryz.underlying38 hi hz0 hz1 hz2 rfl (by decide) _ _ _ rfl (hown.alloc _) ⟨wr.heap.size, 0, none⟩ 1 1 [S y] rfl rfl (new_cell_at rfl _ _) (s_one _) (by unfold maxLen; omega) (by omega) (by rw [World.size_alloc]; omega) ?_)
        intro v' w1 hown' hgrow _
        have hB1 : Below w0.heap.size w0 w1 := (hB.alloc hsz _).grown hgrow (by rw [World.size_alloc]; omega) (fun j hj => (hown.lt j hj).1)
        clear hgrow hown hB hc1
        go_wp2
        go_roundw
        case rel => exact ⟨n + 1, _, by omega, by go_num, HS.out, by simpa using hown', by simp; omega, hB1⟩
        case measure => simp [intOf]; omega
    · have h1' : ¬ (n : Int) < (l.length : Int) := by omega
      obtain rfl : n = l.length := by omega
      have hst2 := hst
      rcases hst2 with ⟨rfl, h2, h3⟩ | ⟨rfl, h2, _⟩
      · rw [List.take_of_length_le (Nat.le_refl _)] at h2 h3
        have HW := Lib.hid (show withK id l k = out ++ [k] by rw [h2]; exact with_end (key := id) h3)
        clear hst h2 h3
        go_wp2_with (at_builtin; refine wpList_append_own _ rfl _ _ 38 rfl w0.heap.size 9 i0 (.string ⟨#[]⟩) 1 16 Tryz.underlying38 hi hz0 hz1 hz2 rfl (by decide) _ _ _ rfl (hown.alloc _) ⟨wr.heap.size, 0, none⟩ 1 1 [S k] rfl rfl (new_cell_at rfl _ _) (s_one _) (by unfold maxLen; omega) (by omega) (by rw [World.size_alloc]; omega) ?_)
        intro v' w1 hown' hgrow _
        have hB1 : Below w0.heap.size w0 w1 := (hB.alloc hsz _).grown hgrow (by rw [World.size_alloc]; omega) (fun j hj => (hown.lt j hj).1)
        clear hgrow hown hB
        go_wp2
        go_ret
        refine ⟨_, rfl, ?_, below_chain hB0 hB1 hB0.size⟩
        rw [HA.out, HW.out]; exact .inr (own_mono hB0.size (by simpa using hown'))
      · rw [List.take_of_length_le (Nat.le_refl _)] at h2
        have HW := Lib.hid h2
        clear hst h2
        go_wp2
        go_ret
        refine ⟨_, rfl, ?_, hBw⟩
        rw [HA.out, ← HW.out]; exact .inr (own_mono hB0.size hown)
theorem radd_walk (v : Value) (l : List (List UInt8)) (k : List UInt8) (w : World) (hr : StrRow w v l) (hcnt : l.length ≤ 1100000) (hup : upS l) :
    Calls Tryz.prog 63 #[v, S k] w fun e w' => ∃ v', e = .returned v' ∧ StrRow w' v' (addL l k) ∧ Below w.heap.size w w' := by
  refine (radd2_walk v l k w hr hcnt hup).mono ?_
  rintro e w' ⟨v', rfl, h, hb⟩
  refine ⟨v', rfl, ?_, hb⟩
  rcases h with ⟨h1, rfl⟩ | h
  · rw [h1]; exact hr.below hb
  · exact StrRow.of_owns h
end Go.Proofs.YtkejdbidomlonaaGreatDoor

namespace Go.Proofs.YtkejdbidomlonaaGreatDoor

def len32 (x : List UInt8) : Bool := x.length == 32
/-- The set of those keys that are keys. -/
def setOf (l : List (List UInt8)) : List (List UInt8) := (l.filter len32).foldl addL []
theorem foldl_add_up : ∀ (l s : List (List UInt8)), upS s → upS (l.foldl addL s)
  | [], _, h => h
  | _ :: l, _, h => foldl_add_up l _ (addL_up h)
theorem foldl_add_mem : ∀ (l s : List (List UInt8)) (x : List UInt8), x ∈ l.foldl addL s ↔ x ∈ l ∨ x ∈ s
  | [], s, x => by simp
  | y :: l, s, x => by
    rw [List.foldl_cons, foldl_add_mem l, addL_mem, List.mem_cons]
    constructor
    · rintro (h | h | h)
      · exact .inl (.inr h)
      · exact .inl (.inl h)
      · exact .inr h
    · rintro ((h | h) | h)
      · exact .inr (.inl h)
      · exact .inl h
      · exact .inr (.inr h)
theorem upS_nil : upS [] := List.Pairwise.nil
theorem setOf_up (l : List (List UInt8)) : upS (setOf l) := foldl_add_up _ _ upS_nil
theorem setOf_mem {l : List (List UInt8)} {x : List UInt8} : x ∈ setOf l ↔ x ∈ l ∧ x.length = 32 := by
  unfold setOf
  rw [foldl_add_mem]
  simp [len32]
theorem addL_len (l : List (List UInt8)) (k : List UInt8) : (addL l k).length ≤ l.length + 1 := by
  unfold addL
  split
  · omega
  · exact with_len (key := id) l k
theorem foldl_add_len : ∀ (l s : List (List UInt8)), (l.foldl addL s).length ≤ s.length + l.length
  | [], _ => by simp
  | y :: l, s => by
    have h := foldl_add_len l (addL s y)
    have h2 := addL_len s y
    simp only [List.foldl_cons, List.length_cons]; omega
theorem setOf_len (l : List (List UInt8)) : (setOf l).length ≤ l.length := by
  have h := foldl_add_len (l.filter len32) []
  have h2 := List.length_filter_le len32 l
  unfold setOf
  simp only [List.length_nil] at h
  omega
theorem up_ext : ∀ {a b : List (List UInt8)}, upS a → upS b → (∀ x, x ∈ a ↔ x ∈ b) → a = b
  | [], [], _, _, _ => rfl
  | [], y :: _, _, _, h => absurd ((h y).2 (by simp)) (by simp)
  | x :: _, [], _, _, h => absurd ((h x).1 (by simp)) (by simp)
  | x :: a, y :: b, ha, hb, h => by
    unfold upS at ha hb
    rw [List.pairwise_cons] at ha hb
    have hxy : x = y := by
      rcases List.mem_cons.1 ((h x).1 (by simp)) with e | e
      · exact e
      · rcases List.mem_cons.1 ((h y).2 (by simp)) with e2 | e2
        · exact e2.symm
        · exact absurd (ha.1 y e2) (List.lt_asymm (hb.1 x e))
    subst hxy
    congr 1
    refine up_ext ha.2 hb.2 fun z => ?_
    have hz := h z
    simp only [List.mem_cons] at hz
    constructor
    · intro hm
      rcases hz.1 (.inr hm) with rfl | h2
      · exact absurd (ha.1 z hm) (List.lt_irrefl z)
      · exact h2
    · intro hm
      rcases hz.2 (.inr hm) with rfl | h2
      · exact absurd (hb.1 z hm) (List.lt_irrefl z)
      · exact h2
theorem compact_inv {zs : List (List UInt8)} (hs : zs.Pairwise (· ≤ ·)) : ∀ m, m ≤ zs.length → upS (Lib.compactUpTo zs.toArray m) ∧ ∀ x, x ∈ Lib.compactUpTo zs.toArray m ↔ x ∈ zs.take m
  | 0, _ => ⟨List.Pairwise.nil, fun x => by simp [Lib.compactUpTo]⟩
  | m + 1, h => by
    obtain ⟨ih1, ih2⟩ := compact_inv hs m (by omega)
    have hm : m < zs.length := by omega
    have e : zs.toArray[m]! = zs[m] := by rw [getElem!_pos zs.toArray m (by simpa using hm)]; simp
    rw [Lib.compactUpTo_succ, List.take_succ_eq_append_getElem hm]
    by_cases hk : Lib.keeps zs.toArray m = true
    · rw [if_pos hk, e]
      refine ⟨List.pairwise_append.2 ⟨ih1, List.pairwise_singleton _ _, ?_⟩, fun x => by rw [List.mem_append, List.mem_append, ih2]⟩
      intro a ha b hb
      obtain rfl := List.mem_singleton.1 hb
      obtain ⟨i, hi, rfl⟩ := List.mem_take_iff_getElem.1 ((ih2 a).1 ha)
      have hm1 : m - 1 < zs.length := by omega
      have e1 : zs.toArray[m - 1]! = zs[m - 1] := by rw [getElem!_pos zs.toArray (m - 1) (by simpa using hm1)]; simp
      have hne : zs[m - 1] ≠ zs[m] := by
        have := of_decide_eq_true hk
        rw [e, e1] at this
        rcases this with h1 | h1
        · omega
        · exact fun h2 => h1 h2.symm
      have h1 : zs[i] ≤ zs[m - 1] := by
        by_cases hq : i = m - 1
        · subst hq; exact List.le_refl _
        · exact List.pairwise_iff_getElem.1 hs i (m - 1) _ _ (by omega)
      have h2 : zs[m - 1] ≤ zs[m] := List.pairwise_iff_getElem.1 hs (m - 1) m _ _ (by omega)
      have h3 : zs[m - 1] < zs[m] := by
        rcases lt_or_eq_or_gt zs[m - 1] zs[m] with h4 | h4 | h4
        · exact h4
        · exact absurd h4 hne
        · exact absurd h4 (List.not_lt.2 h2)
      exact List.lt_of_le_of_lt h1 h3
    · rw [if_neg hk, List.append_nil]
      refine ⟨ih1, fun x => ?_⟩
      rw [ih2, List.mem_append]
      constructor
      · exact .inl
      · rintro (h1 | h1)
        · exact h1
        · obtain rfl := List.mem_singleton.1 h1
          have hm1 : m - 1 < zs.length := by omega
          have e1 : zs.toArray[m - 1]! = zs[m - 1] := by rw [getElem!_pos zs.toArray (m - 1) (by simpa using hm1)]; simp
          have hd : ¬ (m = 0 ∨ zs[m] ≠ zs[m - 1]) := by
            intro h2
            exact hk (by unfold Lib.keeps; rw [e, e1]; exact decide_eq_true h2)
          have hd2 : zs[m] = zs[m - 1] := Classical.byContradiction fun h2 => hd (.inr h2)
          have hd3 : m ≠ 0 := fun h2 => hd (.inl h2)
          rw [hd2]
          exact List.mem_take_iff_getElem.2 ⟨m - 1, by omega, rfl⟩
theorem sort_le (l : List (List UInt8)) : (l.mergeSort fun x y => decide (x ≤ y)).Pairwise (· ≤ ·) := by
  have h := List.pairwise_mergeSort (le := fun x y : List UInt8 => decide (x ≤ y)) (fun a b c h1 h2 => decide_eq_true (List.le_trans (of_decide_eq_true h1) (of_decide_eq_true h2))) (fun a b => by rcases List.le_total a b with h | h <;> simp [h]) l
  exact h.imp fun h1 => of_decide_eq_true h1
/-- Sorted, without repeats: the set. -/
theorem compact_set (l : List (List UInt8)) : Lib.compact ((l.filter len32).mergeSort fun x y => decide (x ≤ y)) = setOf l := by
  obtain ⟨h1, h2⟩ := compact_inv (sort_le (l.filter len32)) _ (Nat.le_refl _)
  refine up_ext h1 (setOf_up l) fun x => ?_
  unfold Lib.compact
  rw [h2, List.take_length, List.mem_mergeSort, setOf_mem, List.mem_filter]
  simp [len32]
end Go.Proofs.YtkejdbidomlonaaGreatDoor

namespace Go.Proofs.YtkejdbidomlonaaGreatDoor

def kidsL (n : Nod) : List (List UInt8) := n.parts.map (fun p : Prt => p.1) ++ n.ents.map (fun e : Ent => e.2.2.2)
def kidsN (n : Nod) : List (List UInt8) := setOf (kidsL n)
theorem kidsL_len (n : Nod) : (kidsL n).length = n.parts.length + n.ents.length := by simp [kidsL]
theorem kidsN_len (n : Nod) : (kidsN n).length ≤ n.parts.length + n.ents.length := by
  have := setOf_len (kidsL n); rw [kidsL_len] at this; exact this
theorem kidsN_part {n : Nod} {p : Prt} (h : p ∈ n.parts) : p.1 ∈ kidsN n ↔ p.1.length = 32 := by
  unfold kidsN
  rw [setOf_mem]
  exact ⟨fun h1 => h1.2, fun h1 => ⟨List.mem_append.2 (.inl (List.mem_map.2 ⟨p, h, rfl⟩)), h1⟩⟩
theorem kidsN_ent {n : Nod} {e : Ent} (h : e ∈ n.ents) : e.2.2.2 ∈ kidsN n ↔ e.2.2.2.length = 32 := by
  unfold kidsN
  rw [setOf_mem]
  exact ⟨fun h1 => h1.2, fun h1 => ⟨List.mem_append.2 (.inr (List.mem_map.2 ⟨e, h, rfl⟩)), h1⟩⟩
end Go.Proofs.YtkejdbidomlonaaGreatDoor
