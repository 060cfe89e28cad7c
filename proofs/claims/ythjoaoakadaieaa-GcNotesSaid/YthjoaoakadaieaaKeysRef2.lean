/- The reference's sets of keys: a set and one more. -/
import Derived.Test.YthjoaoakadaieaaKeysRef
import Derived.Test.YthjoaoakadaieaaRWith15
namespace Go.Proofs.Ythjoaoakadaieaa
open Go.RowKit

/-- A set and one more. -/
def addL (l : List (List UInt8)) (k : List UInt8) : List (List UInt8) := if k ∈ l then l else withK id l k
theorem addL_up {l : List (List UInt8)} {k : List UInt8} (hu : upS l) : upS (addL l k) := by
  unfold addL
  split
  · exact hu
  · have h := withK_up' (key := (id : List UInt8 → List UInt8)) (l := l) (f := k) (by simpa using hu)
    simpa using h
theorem addL_mem {l : List (List UInt8)} {k x : List UInt8} : x ∈ addL l k ↔ x = k ∨ x ∈ l := by
  unfold addL
  split
  · rename_i h
    exact ⟨.inr, fun h2 => by rcases h2 with rfl | h2; exact h; exact h2⟩
  · unfold withK
    simp only [List.mem_append, List.mem_filter, List.mem_cons, id, decide_eq_true_eq]
    constructor
    · rintro (⟨h, _⟩ | h | ⟨h, _⟩)
      · exact .inr h
      · exact .inl h
      · exact .inr h
    · rintro (h | h)
      · exact .inr (.inl h)
      · by_cases h1 : x < k
        · exact .inl ⟨h, h1⟩
        · by_cases h2 : k < x
          · exact .inr (.inr ⟨h, h2⟩)
          · exact .inr (.inl (List.le_antisymm (List.not_lt.1 h2) (List.not_lt.1 h1)))
/-- Where the loop stands. -/
def AddSt (l : List (List UInt8)) (k : List UInt8) (n : Nat) (d : Value) (out : List (List UInt8)) : Prop :=
  (d = .bool false ∧ out = l.take n ∧ ∀ x ∈ l.take n, x < k) ∨ (d = .bool true ∧ out = withK id (l.take n) k ∧ ∃ x ∈ l.take n, k < x)
theorem add_start (l : List (List UInt8)) (k : List UInt8) : AddSt l k 0 (.bool false) [] := .inl ⟨rfl, by simp, by simp⟩
theorem add_less {l : List (List UInt8)} {k y : List UInt8} {n : Nat} {out : List (List UInt8)} (h : n < l.length) (hy : l[n] = y) (hs : AddSt l k n (.bool false) out) (hl : y < k) : AddSt l k (n + 1) (.bool false) (out ++ [y]) := by
  rcases hs with ⟨_, h1, h2⟩ | ⟨h1, _⟩
  · refine .inl ⟨rfl, by rw [List.take_succ_eq_append_getElem h, h1, hy], fun x hx => ?_⟩
    rw [List.take_succ_eq_append_getElem h, List.mem_append] at hx
    rcases hx with hx | hx
    · exact h2 x hx
    · simp only [List.mem_singleton] at hx; rw [hx, hy]; exact hl
  · cases h1
theorem add_put {l : List (List UInt8)} {k y : List UInt8} {n : Nat} {out : List (List UInt8)} (h : n < l.length) (hy : l[n] = y) (hs : AddSt l k n (.bool false) out) (hl : k < y) : AddSt l k (n + 1) (.bool true) (out ++ [k] ++ [y]) := by
  rcases hs with ⟨_, h1, h2⟩ | ⟨h1, _⟩
  · refine .inr ⟨rfl, ?_, y, ?_, hl⟩
    · rw [List.take_succ_eq_append_getElem h, h1, hy, with_first (key := id) h2 (fun h3 => List.lt_asymm hl h3), if_neg]
      simp only [id, beq_iff_eq]
      intro e; rw [e] at hl; exact List.lt_irrefl _ hl
    · rw [List.take_succ_eq_append_getElem h, hy]; simp
  · cases h1
theorem add_on {l : List (List UInt8)} {k y : List UInt8} {n : Nat} {out : List (List UInt8)} (hu : upS l) (h : n < l.length) (hy : l[n] = y) (hs : AddSt l k n (.bool true) out) : k < y ∧ AddSt l k (n + 1) (.bool true) (out ++ [y]) := by
  rcases hs with ⟨h1, _⟩ | ⟨_, h1, x, hx, h2⟩
  · cases h1
  · have h3 := up_last (key := id) (by simpa using hu) h x hx
    have h4 : k < y := by
      rw [hy] at h3
      exact List.lt_trans h2 h3
    refine ⟨h4, .inr ⟨rfl, by rw [List.take_succ_eq_append_getElem h, h1, hy, with_more (key := id) h4], x, ?_, h2⟩⟩
    rw [List.take_succ_eq_append_getElem h, List.mem_append]; exact .inl hx
theorem s_one (k : List UInt8) : ∀ u ∈ [S k], u.oneCell' = true := by intro u hu; simp at hu; subst hu; rfl

set_option maxHeartbeats 4000000 in
set_option maxRecDepth 100000 in
theorem radd_walk (v : Value) (l : List (List UInt8)) (k : List UInt8) (w : World) (hr : StrRow w v l) (hcnt : l.length ≤ 1000000) (hup : upS l) :
    Calls Try.prog 39 #[v, S k] w fun e w' => ∃ v', e = .returned v' ∧ StrRow w' v' (addL l k) ∧ Below w.heap.size w w' := by
  have C := rhas_walk v l k w hr hcnt
  have HR := Lib.hid hr
  by_cases hin : k ∈ l
  · have HA := Lib.hid (show addL l k = l from if_pos hin)
    rw [decide_eq_true hin] at C
    clear hin hup
    go_enter Try.func39, Try.ntmps39
    go_wp2_with (go_at_call 14; refine (C).mono ?_; rintro e w1 ⟨rfl, hb1⟩)
    go_ret
    exact ⟨_, rfl, by rw [HA.out]; exact HR.out.below hb1, hb1⟩
  have HA := Lib.hid (show addL l k = withK id l k from if_neg hin)
  rw [decide_eq_false hin] at C
  obtain ⟨a, c, rfl, hc, hm, hx⟩ := hr
  have HX := Lib.hid hx
  have HUP := Lib.hid hup
  have HIN := Lib.hid hin
  clear hx hup hin
  obtain ⟨i0, hi, hz0, hz1, hz2⟩ := info_parts infoStr
  go_enter Try.func39, Try.ntmps39
  go_wp2_with fail
  refine C.mono ?_
  rintro e w0 ⟨rfl, hB0⟩
  go_wp2
  go_loopw [5, 6, 7] (fun v d i wr => ∃ (n : Nat) (out : List (List UInt8)), n ≤ l.length ∧ i = .int .i64 n ∧ AddSt l k n d out ∧ wr.ownsRow w0.heap.size 9 1 v out.length (out.map S) ∧ out.length ≤ n + 1 ∧ Below w0.heap.size w0 wr) (fun _ _ i _ => l.length - (intOf i).toNat)
  case atStart => exact ⟨0, [], Nat.zero_le _, rfl, add_start _ _, World.ownsRow_nil _ _ _ _, by simp, Below.refl _ _⟩
  case round =>
    obtain ⟨n, out, hn, rfl, hst, hown, hdk, hB⟩ := hrel
    have hsz := hB.size
    have hBw := below_chain hB0 hB hB0.size
    by_cases h1 : n < l.length
    · have hx := HX.out
      rcases hx with hx | ⟨b, o, rfl, hx⟩
      · exfalso; rw [hx] at h1; simp at h1
      have hc1 := cell_below hBw (str_cell hx h1)
      obtain ⟨y, hy⟩ : ∃ y, l[n] = y := ⟨_, rfl⟩
      have hyk : y ≠ k := fun e => HIN.out (by rw [← e, ← hy]; exact List.getElem_mem h1)
      have HST := Lib.hid hst
      have HY := Lib.hid hy
      rw [hy] at hc1
      clear hx hy
      have h1' : (n : Int) < (l.length : Int) := by omega
      have hcase : (u6 = .bool false) ∨ (u6 = .bool true) := by
        rcases hst with ⟨h, _⟩ | ⟨h, _⟩
        · exact .inl h
        · exact .inr h
      clear hst
      rcases hcase with rfl | rfl
      · have hdk2 : out.length ≤ n := by
          rcases HST.out with ⟨_, h, _⟩ | ⟨h, _⟩
          · rw [h, List.length_take]; omega
          · cases h
        rcases three_ways y k with ⟨_, hlt, hbl, _, hne⟩ | ⟨_, heq, hbl, _, hne⟩ | ⟨_, hlt, hbl, hbl2, hne⟩
        · have HS := Lib.hid (add_less h1 HY.out HST.out hlt)
          clear hlt HST hyk
          go_wp2_with (at_builtin; refine wpList_append_own _ rfl _ _ 22 rfl w0.heap.size 9 i0 (.string ⟨#[]⟩) 1 16 Try.underlying22 hi hz0 hz1 hz2 rfl (by decide) _ _ _ rfl (hown.alloc _) ⟨wr.heap.size, 0, none⟩ 1 1 [S y] rfl rfl (new_cell_at rfl _ _) (s_one _) (by unfold maxLen; omega) (by omega) (by rw [World.size_alloc]; omega) ?_)
          intro v' w1 hown' hgrow _
          have hB1 : Below w0.heap.size w0 w1 := (hB.alloc hsz _).grown hgrow (by rw [World.size_alloc]; omega) (fun j hj => (hown.lt j hj).1)
          clear hgrow hown hB hc1
          go_wp2
          go_roundw
          case rel => exact ⟨n + 1, _, by omega, by go_num, HS.out, by simpa using hown', by simp; omega, hB1⟩
          case measure => simp [intOf]; omega
        · exact absurd heq hyk
        · have HS := Lib.hid (add_put h1 HY.out HST.out hlt)
          clear hlt HST hyk
          go_wp2_with (at_builtin; refine wpList_append_own _ rfl _ _ 22 rfl w0.heap.size 9 i0 (.string ⟨#[]⟩) 1 16 Try.underlying22 hi hz0 hz1 hz2 rfl (by decide) _ _ _ rfl (hown.alloc _) ⟨wr.heap.size, 0, none⟩ 1 1 [S k] rfl rfl (new_cell_at rfl _ _) (s_one _) (by unfold maxLen; omega) (by omega) (by rw [World.size_alloc]; omega) ?_)
          intro v' w1 hown' hgrow _
          have hB1 : Below w0.heap.size w0 w1 := (hB.alloc hsz _).grown hgrow (by rw [World.size_alloc]; omega) (fun j hj => (hown.lt j hj).1)
          have hsz1 := hB1.size
          have hBw1 := below_chain hB0 hB1 hB0.size
          have hx := HX.out
          rcases hx with hx | ⟨b2, o2, hbo, hx⟩
          · exfalso; rw [hx] at h1; simp at h1
          cases hbo
          have hc2 := cell_below hBw1 (str_cell hx h1)
          rw [HY.out] at hc2
          clear hx hgrow hown hB hc1
          go_wp2_with (at_builtin; refine wpList_append_own _ rfl _ _ 22 rfl w0.heap.size 9 i0 (.string ⟨#[]⟩) 1 16 Try.underlying22 hi hz0 hz1 hz2 rfl (by decide) _ _ _ rfl (hown'.alloc _) ⟨w1.heap.size, 0, none⟩ 1 1 [S y] rfl rfl (new_cell_at rfl _ _) (s_one _) (by unfold maxLen; omega) (by omega) (by rw [World.size_alloc]; omega) ?_)
          intro v'' w2 hown2 hgrow2 _
          have hB2 : Below w0.heap.size w0 w2 := (hB1.alloc hsz1 _).grown hgrow2 (by rw [World.size_alloc]; omega) (fun j hj => (hown'.lt j hj).1)
          clear hgrow2 hown' hB1
          go_wp2
          go_roundw
          case rel => exact ⟨n + 1, _, by omega, by go_num, HS.out, by simpa using hown2, by simp; omega, hB2⟩
          case measure => simp [intOf]; omega
      · obtain ⟨hlt, hS⟩ := add_on HUP.out h1 HY.out HST.out
        have HS := Lib.hid hS
        clear hlt hS HST hyk
        go_wp2_with (at_builtin; refine wpList_append_own _ rfl _ _ 22 rfl w0.heap.size 9 i0 (.string ⟨#[]⟩) 1 16 Try.underlying22 hi hz0 hz1 hz2 rfl (by decide) _ _ _ rfl (hown.alloc _) ⟨wr.heap.size, 0, none⟩ 1 1 [S y] rfl rfl (new_cell_at rfl _ _) (s_one _) (by unfold maxLen; omega) (by omega) (by rw [World.size_alloc]; omega) ?_)
        intro v' w1 hown' hgrow _
        have hB1 : Below w0.heap.size w0 w1 := (hB.alloc hsz _).grown hgrow (by rw [World.size_alloc]; omega) (fun j hj => (hown.lt j hj).1)
        clear hgrow hown hB hc1
        go_wp2
        go_roundw
        case rel => exact ⟨n + 1, _, by omega, by go_num, HS.out, by simpa using hown', by simp; omega, hB1⟩
        case measure => simp [intOf]; omega
    · have h1' : ¬ (n : Int) < (l.length : Int) := by omega
      obtain rfl : n = l.length := by omega
      have hst2 := hst
      rcases hst2 with ⟨rfl, h2, h3⟩ | ⟨rfl, h2, _⟩
      · rw [List.take_of_length_le (Nat.le_refl _)] at h2 h3
        have HW := Lib.hid (show withK id l k = out ++ [k] by rw [h2]; exact with_end (key := id) h3)
        clear hst h2 h3
        go_wp2_with (at_builtin; refine wpList_append_own _ rfl _ _ 22 rfl w0.heap.size 9 i0 (.string ⟨#[]⟩) 1 16 Try.underlying22 hi hz0 hz1 hz2 rfl (by decide) _ _ _ rfl (hown.alloc _) ⟨wr.heap.size, 0, none⟩ 1 1 [S k] rfl rfl (new_cell_at rfl _ _) (s_one _) (by unfold maxLen; omega) (by omega) (by rw [World.size_alloc]; omega) ?_)
        intro v' w1 hown' hgrow _
        have hB1 : Below w0.heap.size w0 w1 := (hB.alloc hsz _).grown hgrow (by rw [World.size_alloc]; omega) (fun j hj => (hown.lt j hj).1)
        clear hgrow hown hB
        go_wp2
        go_ret
        refine ⟨_, rfl, ?_, below_chain hB0 hB1 hB0.size⟩
        rw [HA.out, HW.out]; exact StrRow.of_owns (by simpa using hown')
      · rw [List.take_of_length_le (Nat.le_refl _)] at h2
        have HW := Lib.hid h2
        clear hst h2
        go_wp2
        go_ret
        refine ⟨_, rfl, ?_, hBw⟩
        rw [HA.out, ← HW.out]; exact StrRow.of_owns hown

set_option maxHeartbeats 4000000 in
set_option maxRecDepth 100000 in
theorem rjoin1_walk (v v2 : Value) (l : List (List UInt8)) (k : List UInt8) (w : World) (hr : StrRow w v l) (hr2 : StrRow w v2 [k]) (hcnt : l.length ≤ 100000) (hup : upS l) :
    Calls Try.prog 16 #[v, v2] w fun e w' => ∃ v', e = .returned v' ∧ StrRow w' v' (addL l k) ∧ Below w.heap.size w w' := by
  have HR2 := Lib.hid hr2
  obtain ⟨a, c, rfl, hc, hm, hx⟩ := hr
  obtain ⟨a2, c2, rfl, hc2, hm2, hx2⟩ := hr2
  rcases hx2 with hx2 | ⟨b2, o2, rfl, hx2⟩
  · cases hx2
  have hk0 := hx2 0 k rfl
  obtain ⟨i0, hi, hz0, hz1, hz2⟩ := info_parts infoStr
  have HUP := Lib.hid hup
  have HUP2 := Lib.hid (addL_up (k := k) hup)
  clear hx2 hup
  have main : ∀ (v1 : Value) (w1 : World), StrRow w1 v1 l → Below w.heap.size w w1 → True := fun _ _ _ _ => trivial
  clear main
  have hnews : a = none ∧ l = [] ∨ ∃ ad, a = some ad ∧ ∀ j u, (l.map S)[j]? = some u → w.cell? (ad.add j) = some u := by
    cases a with
    | none =>
      rcases hx with hx | ⟨b, o, h, _⟩
      · exact .inl ⟨rfl, hx⟩
      · cases h
    | some ad =>
      refine .inr ⟨ad, rfl, fun j u hj => ?_⟩
      rcases hx with hx | ⟨b, o, h, hx⟩
      · rw [hx] at hj; cases hj
      · cases h
        rw [Addr.add_lit]
        rw [List.getElem?_map] at hj
        cases hlj : l[j]? with
        | none => rw [hlj] at hj; cases hj
        | some x => rw [hlj] at hj; cases hj; exact hx j x hlj
  clear hx
  rcases hnews with ⟨rfl, rfl⟩ | ⟨ad, rfl, hnews⟩
  · have HSTART := Lib.hid (StrRow.nil w)
    have HBST := Lib.hid (Below.refl w.heap.size w)
    go_enter Try.func16, Try.ntmps16
    go_wp2
    go_loopw [5, 6] (fun v i wr => (i = .int .i64 0 ∧ StrRow wr v [] ∧ Below w.heap.size w wr) ∨ (i = .int .i64 1 ∧ StrRow wr v (addL [] k) ∧ Below w.heap.size w wr)) (fun _ i _ => 1 - (intOf i).toNat)
    case atStart => exact .inl ⟨rfl, HSTART.out, HBST.out⟩
    case round =>
      rcases hrel with ⟨rfl, hrv, hB⟩ | ⟨rfl, hrv, hB⟩
      · have C := radd_walk u5 [] k wr hrv (by first | omega | simp) HUP.out
        have hc1 := cell_below hB hk0
        try simp only [Nat.add_zero] at hc1
        clear hrv
        go_wp2_with fail
        refine C.mono ?_
        rintro e w2 ⟨v2, rfl, hr2, hb2⟩
        have hB2 := below_chain hB hb2 hB.size
        clear C
        go_wp2
        go_roundw
        case rel => exact .inr ⟨by go_num, hr2, hB2⟩
        case measure => simp [intOf]
      · have HRV := Lib.hid hrv
        clear hrv
        go_wp2
        go_ret
        exact ⟨_, rfl, HRV.out, hB⟩
  · have hnil := World.ownsRow_nil w w.heap.size 9 1
    have HNEWS := Lib.hid hnews
    clear hnews
    go_enter Try.func16, Try.ntmps16
    go_wp2_with (at_builtin; refine wpList_append_own _ rfl _ _ 22 rfl w.heap.size 9 i0 (.string ⟨#[]⟩) 1 16 Try.underlying22 hi hz0 hz1 hz2 rfl (by decide) _ 0 [] rfl hnil ad l.length c (l.map S) rfl (by simp) HNEWS.out (by intro u hu; obtain ⟨x, _, rfl⟩ := List.mem_map.1 hu; rfl) (by unfold maxLen; omega) (by omega) (Nat.le_refl _) ?_)
    intro v1 w1 hown1 hgrow1 _
    have HBST := Lib.hid ((Below.refl w.heap.size w).grown hgrow1 (Nat.le_refl _) (fun j hj => by cases hj))
    have HSTART := Lib.hid (show StrRow w1 v1 l from StrRow.of_owns (by simpa using hown1))
    clear hown1 hgrow1 hnil
    go_wp2
    go_loopw [5, 6] (fun v i wr => (i = .int .i64 0 ∧ StrRow wr v l ∧ Below w.heap.size w wr) ∨ (i = .int .i64 1 ∧ StrRow wr v (addL l k) ∧ Below w.heap.size w wr)) (fun _ i _ => 1 - (intOf i).toNat)
    case atStart => exact .inl ⟨rfl, HSTART.out, HBST.out⟩
    case round =>
      rcases hrel with ⟨rfl, hrv, hB⟩ | ⟨rfl, hrv, hB⟩
      · have C := radd_walk u5 l k wr hrv (by first | omega | simp) HUP.out
        have hc1 := cell_below hB hk0
        try simp only [Nat.add_zero] at hc1
        clear hrv
        go_wp2_with fail
        refine C.mono ?_
        rintro e w2 ⟨v2, rfl, hr2, hb2⟩
        have hB2 := below_chain hB hb2 hB.size
        clear C
        go_wp2
        go_roundw
        case rel => exact .inr ⟨by go_num, hr2, hB2⟩
        case measure => simp [intOf]
      · have HRV := Lib.hid hrv
        clear hrv
        go_wp2
        go_ret
        exact ⟨_, rfl, HRV.out, hB⟩
end Go.Proofs.Ythjoaoakadaieaa
