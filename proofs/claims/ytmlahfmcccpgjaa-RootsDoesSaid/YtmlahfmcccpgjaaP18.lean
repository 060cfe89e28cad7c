/- The program's answers on trees that are kept: Find, Keys, Same. -/
import Derived.Test.YtmlahfmcccpgjaaPAt
import Derived.Test.YtmlahfmcccpgjaaR18y
namespace Go.Proofs.Ytmlahfmcccpgjaa
open Go.RowKit

def namesR (l : List Snp) : List (List UInt8) := l.map (·.1)
theorem namesR_len (l : List Snp) : (namesR l).length = l.length := by simp [namesR]
theorem findR_none {l : List Snp} {n : List UInt8} (h : n ∉ namesR l) : findR l n = none := by
  unfold findR namesR at *
  rw [Option.map_eq_none_iff, List.find?_eq_none]
  intro x hx
  simp only [beq_iff_eq]
  rintro rfl
  exact h (List.mem_map_of_mem hx)
theorem findR_pos {l : List Snp} {n : List UInt8} (hu : upS (namesR l)) (h : n ∈ namesR l) : ∃ hk : posL (namesR l) n < l.length, findR l n = some l[posL (namesR l) n].2 := by
  have h1 := (mem_at_pos hu).1 h
  have hlt : posL (namesR l) n < l.length := by
    have := (List.getElem?_eq_some_iff.1 h1).1
    rwa [namesR_len] at this
  have h2 : l[posL (namesR l) n].1 = n := by
    rw [List.getElem?_eq_getElem (by rw [namesR_len]; exact hlt), Option.some.injEq] at h1
    simpa [namesR] using h1
  refine ⟨hlt, findR_at hlt h2 ?_⟩
  unfold findR
  rw [Option.map_eq_none_iff, List.find?_eq_none]
  intro x hx
  simp only [beq_iff_eq]
  rintro he
  obtain ⟨j, hj, rfl⟩ := List.mem_iff_getElem.1 hx
  rw [List.length_take] at hj
  rw [List.getElem_take] at he
  have hp := List.pairwise_iff_getElem.1 hu j (posL (namesR l) n) (by rw [namesR_len]; omega) (by rw [namesR_len]; exact hlt) (by omega)
  simp only [namesR, List.getElem_map] at hp
  rw [he] at hp
  simp only [namesR] at h2
  rw [h2] at hp
  exact List.lt_irrefl _ hp

set_option maxHeartbeats 1000000 in
set_option maxRecDepth 100000 in
theorem pfind_walk (v : Value) (l : List Snp) (n : List UInt8) (w : World) (hr : SnpRow w v l) (hcnt : l.length ≤ 1000000) (hup : upS (namesR l)) :
    Calls Try.prog 17 #[v, S n] w fun e w' => e = .returned (.tuple #[S (rootOf (findR l n)), .bool (findR l n).isSome]) ∧ Below w.heap.size w w' := by
  have C := pat_walk v l n w hr hcnt hup
  obtain ⟨a, c, rfl, hc, hm, hx⟩ := hr
  by_cases hin : n ∈ namesR l
  · obtain ⟨hk, hf⟩ := findR_pos hup hin
    have HF := Lib.hid hf
    have hin2 : decide (n ∈ l.map (·.1)) = true := by simpa [namesR] using hin
    rw [hin2] at C
    have hpp : posL (l.map (·.1)) n = posL (namesR l) n := rfl
    rw [hpp] at C
    clear hf hin hin2 hpp hup
    rcases hx with hx | ⟨b, o, rfl, hx⟩
    · exfalso; rw [hx] at hk; simp at hk
    obtain ⟨hx1, hx2⟩ := snp_cells hx hk
    clear hx
    generalize posL (namesR l) n = k at *
    generalize l[k] = y at *
    obtain ⟨p, q⟩ := y
    have hk' : (k : Int) < (l.length : Int) := by omega
    rw [HF.out]
    go_enter Try.func17, Try.ntmps17
    go_wp2_with (go_at_call 47; refine C.mono ?_; rintro e w1 ⟨rfl, hb⟩; have hc1 := cell_below hb hx1; have hc2 := cell_below hb hx2)
    go_ret2
    exact ⟨rfl, hb⟩
  · have HF := Lib.hid (findR_none hin)
    have hin2 : decide (n ∈ l.map (·.1)) = false := by simpa [namesR] using hin
    rw [hin2] at C
    clear hin hin2 hx
    rw [HF.out]
    generalize posL (l.map (·.1)) n = k at *
    go_enter Try.func17, Try.ntmps17
    go_wp2_with (go_at_call 47; refine (C).mono ?_; rintro e w1 ⟨rfl, hb⟩)
    go_ret2
    exact ⟨rfl, hb⟩

set_option maxHeartbeats 1000000 in
set_option maxRecDepth 100000 in
theorem pkeys_walk (v : Value) (l : List Snp) (w : World) (hr : SnpRow w v l) (hcnt : l.length ≤ 1000000) :
    Calls Try.prog 19 #[v] w fun e w' => ∃ v', e = .returned v' ∧ StrRow w' v' (keysR l) ∧ Below w.heap.size w w' := by
  obtain ⟨a, c, rfl, hc, hm, hx⟩ := hr
  have HX := Lib.hid hx
  clear hx
  obtain ⟨i0, hi, hz0, hz1, hz2⟩ := info_parts infoStr
  go_enter Try.func19, Try.ntmps19
  go_wp2
  go_loopw [3, 8] (fun v i wr => ∃ (k : Nat) (dn : List (List UInt8)), k ≤ l.length ∧ i = .int .i64 k ∧ dn = keysR (l.take k) ∧ dn.length = k ∧ wr.ownsRow w.heap.size 9 1 v dn.length (dn.map S) ∧ Below w.heap.size w wr) (fun _ i _ => l.length - (intOf i).toNat)
  case atStart => exact ⟨0, [], Nat.zero_le _, rfl, rfl, rfl, World.ownsRow_nil _ _ _ _, Below.refl _ _⟩
  case round =>
    obtain ⟨k, dn, hk, rfl, hdn, hdk, hown, hB⟩ := hrel
    have HDN := Lib.hid hdn
    have HDK := Lib.hid hdk
    have hdl : dn.length ≤ 1000000 := by omega
    clear hdn hdk
    have hsz := hB.size
    by_cases h1 : k < l.length
    · have hx := HX.out
      rcases hx with hx | ⟨b, o, rfl, hx⟩
      · exfalso; rw [hx] at h1; simp at h1
      obtain ⟨hx1, hx2⟩ := snp_cells hx h1
      have hc1 := cell_below hB hx1
      have hc2 := cell_below hB hx2
      have HTK := Lib.hid (show dn ++ [l[k].2] = keysR (l.take (k + 1)) by rw [keysR_step h1, HDN.out])
      clear hx hx1 hx2
      generalize l[k] = y at *
      obtain ⟨p, q⟩ := y
      have h1' : (k : Int) < (l.length : Int) := by omega
      go_wp2_with (at_builtin; refine wpList_append_own _ rfl _ _ 22 rfl w.heap.size 9 i0 (.string ⟨#[]⟩) 1 16 Try.underlying22 hi hz0 hz1 hz2 rfl (by decide) _ _ _ rfl ((hown.alloc _).alloc _) ⟨wr.heap.size + 1, 0, none⟩ 1 1 [S q] rfl rfl (new_cell_at (by simp) _ _) (by intro u hu; simp at hu; subst hu; rfl) (by unfold maxLen; omega) (by omega) (by simp; omega) ?_)
      intro v' w1 hown' hgrow _
      have hB1 : Below w.heap.size w w1 := ((hB.alloc hsz _).alloc (by simp; omega) _).grown hgrow (by simp; omega) (fun j hj => (hown.lt j hj).1)
      clear hgrow hown hB hc1 hc2
      go_wp2
      go_roundw
      case rel => exact ⟨k + 1, dn ++ [q], by omega, by go_num, HTK.out, by have := HDK.out; simp; omega, by rw [List.length_append, List.map_append]; exact hown', hB1⟩
      case measure => simp [intOf]; omega
    · have h1' : ¬ (k : Int) < (l.length : Int) := by omega
      have HD2 := Lib.hid (show dn = keysR l by rw [HDN.out, List.take_of_length_le (by omega)])
      have HO := Lib.hid (StrRow.of_owns hown)
      clear hown
      go_wp2
      go_ret
      exact ⟨_, rfl, by rw [← HD2.out]; exact HO.out, hB⟩

set_option maxHeartbeats 1000000 in
set_option maxRecDepth 100000 in
theorem psame_walk (v v2 : Value) (xs ys : List Snp) (w : World) (hx : SnpRow w v xs) (hy : SnpRow w v2 ys) (hcl : xs.length ≤ 1000000) :
    Calls Try.prog 52 #[v, v2] w fun e w' => e = .returned (.bool (xs == ys)) ∧ Below w.heap.size w w' := by
  obtain ⟨a, c, rfl, hc, hm1, hx⟩ := hx
  obtain ⟨a2, c2, rfl, hc2, hm2, hy⟩ := hy
  have HX := Lib.hid hx
  have HY := Lib.hid hy
  clear hx hy
  by_cases hl : xs.length = ys.length
  · have HL := Lib.hid hl
    have hne : ((xs.length : Int) != (ys.length : Int)) = false := by rw [bne_eq_false_iff_eq]; omega
    have hle1 : xs.length ≤ ys.length := by omega
    clear hl
    go_enter Try.func52, Try.ntmps52
    go_wp2
    go_loopw [13] (fun i wr => ∃ k : Nat, k ≤ xs.length ∧ i = .int .i64 k ∧ xs.take k = ys.take k ∧ Below w.heap.size w wr) (fun i _ => xs.length - (intOf i).toNat)
    case atStart => exact ⟨0, Nat.zero_le _, rfl, rfl, Below.refl _ _⟩
    case round =>
      obtain ⟨k, hk, rfl, ht, hB⟩ := hrel
      have HT := Lib.hid ht
      have HB := Lib.hid hB
      clear ht
      by_cases h1 : k < xs.length
      · have h2 : k < ys.length := by omega
        have hx := HX.out
        rcases hx with hx | ⟨b, o, rfl, hx⟩
        · exfalso; rw [hx] at h1; simp at h1
        obtain ⟨hx1, hx2⟩ := snp_cells hx h1
        have hcx1 := cell_below hB hx1
        have hcx2 := cell_below hB hx2
        have hy := HY.out
        rcases hy with hy | ⟨b2, o2, rfl, hy⟩
        · exfalso; rw [hy] at h2; simp at h2
        obtain ⟨hy1, hy2⟩ := snp_cells hy h2
        have hcy1 := cell_below hB hy1
        have hcy2 := cell_below hB hy2
        have h1' : (k : Int) < (xs.length : Int) := by omega
        have h2' : (k : Int) < (ys.length : Int) := by omega
        have hkc1 : (k : Int) < (c : Int) := by omega
        clear hx hx1 hx2 hy hy1 hy2 hB
        by_cases hxy : xs[k] = ys[k]
        · have HS := Lib.hid (show xs.take (k + 1) = ys.take (k + 1) by rw [List.take_succ_eq_append_getElem h1, List.take_succ_eq_append_getElem h2, HT.out, hxy])
          rw [← hxy] at hcy1 hcy2
          clear hxy
          generalize xs[k] = y at *
          obtain ⟨p, q⟩ := y
          go_wp2
          go_quiet (fail)
          go_wp2
          go_roundw
          case rel => exact ⟨k + 1, by omega, by go_num, HS.out, belowN HB.out _⟩
          case measure => simp [intOf]; omega
        · have HF := Lib.hid (snps_ne h1 h2 hxy)
          have hne2 : xs[k].1 ≠ ys[k].1 ∨ (xs[k].1 = ys[k].1 ∧ xs[k].2 ≠ ys[k].2) := by
            by_cases h : xs[k].1 = ys[k].1
            · exact .inr ⟨h, fun h2 => hxy (Prod.ext h h2)⟩
            · exact .inl h
          clear hxy
          generalize xs[k] = y at *
          generalize ys[k] = z at *
          obtain ⟨p, q⟩ := y
          obtain ⟨p2, q2⟩ := z
          simp only at hne2
          have hb1 : ((p == p2) && (q == q2)) = false := by
            rcases hne2 with h | ⟨_, h⟩
            · have : (p == p2) = false := by rw [beq_eq_false_iff_ne]; exact h
              rw [this]; rfl
            · have : (q == q2) = false := by rw [beq_eq_false_iff_ne]; exact h
              rw [this]; simp
          rw [Bool.and_eq_false_iff] at hb1
          clear hne2
          rcases hb1 with hb1 | hb1
          all_goals
            go_wp2
            go_quiet (fail)
            go_wp2
            go_ret
            exact ⟨by rw [HF.out]; rfl, belowN HB.out _⟩
      · have h1' : ¬ (k : Int) < (xs.length : Int) := by omega
        have HF := Lib.hid (snps_eq HL.out (by have := HT.out; have hk2 : k = xs.length := by omega
                                               rwa [hk2] at this))
        go_wp2
        go_ret
        exact ⟨by rw [HF.out]; rfl, HB.out⟩
  · have HF := Lib.hid (show (xs == ys) = false by rw [beq_eq_false_iff_ne]; rintro rfl; exact hl rfl)
    have hne : ((xs.length : Int) != (ys.length : Int)) = true := by rw [bne_iff_ne]; omega
    clear hl
    go_enter Try.func52, Try.ntmps52
    go_wp2
    go_ret
    exact ⟨by rw [HF.out]; rfl, Below.refl _ _⟩

theorem psame2_walk (v v2 : Value) (xs ys : List Snp) (w : World) (hx : SnpRow w v xs) (hy : SnpRow w v2 ys) (hcl : xs.length ≤ 1000000) :
    Calls Try.prog 21 #[v, v2] w fun e w' => e = .returned (.bool (xs == ys)) ∧ Below w.heap.size w w' := by
  have C := psame_walk v v2 xs ys w hx hy hcl
  generalize (xs == ys) = r at *
  go_enter Try.func21, Try.ntmps21
  go_wp2_with (go_at_call 52; refine (C).mono ?_; rintro e w1 ⟨rfl, hb⟩)
  go_ret
  exact ⟨rfl, hb⟩
end Go.Proofs.Ytmlahfmcccpgjaa
