/- The reference's Names. -/
import Derived.Test.YtnegnjagiejncaaDoorR10b
import Derived.Test.YtnegnjagiejncaaDoorRSplit
namespace Go.Proofs.YtnegnjagiejncaaDoor
open Go.RowKit

/-- A path's last name. -/
def lastN (p : List UInt8) : List UInt8 := (splitL p).getLast?.getD []
/-- The names right in a directory. -/
def namesT (l : List Itm) (d : List UInt8) : List (List UInt8) := (l.filter (fun x => dirL x.1 == d)).map (fun x => lastN x.1)
theorem namesT_step {l : List Itm} {d : List UInt8} {k : Nat} (h : k < l.length) : namesT (l.take (k + 1)) d = namesT (l.take k) d ++ (if dirL l[k].1 == d then [lastN l[k].1] else []) := by
  unfold namesT
  rw [List.take_succ_eq_append_getElem h, List.filter_append, List.map_append]
  congr 1
  rw [List.filter_cons]
  split <;> rfl
theorem lastN_at {p : List UInt8} (h : fitB p = true) : ∃ m, (splitL p).length = m + 1 ∧ (splitL p)[m]? = some (lastN p) := by
  unfold fitB at h
  have h1 : 0 < (splitL p).length := by simpa using h
  refine ⟨(splitL p).length - 1, by omega, ?_⟩
  unfold lastN
  rw [List.getLast?_eq_getElem?]
  rw [List.getElem?_eq_getElem (by omega)]
  rfl

set_option maxHeartbeats 2000000 in
set_option maxRecDepth 100000 in
theorem r10names_walk (v : Value) (l : List Itm) (n : List UInt8) (w : World) (hr : ItRow w v l) (hcnt : l.length ≤ 1000000) (hpl : ∀ x ∈ l, x.1.length ≤ 1000000) (hfit : ∀ x ∈ l, fitB x.1 = true) :
    Calls Tryd.prog 29 #[v, S n] w fun e w' => ∃ v', e = .returned v' ∧ StrRow w' v' (namesT l n) ∧ Below w.heap.size w w' := by
  have HPL := Lib.hid hpl
  have HFIT := Lib.hid hfit
  obtain ⟨a, c, rfl, hc, hm, hx⟩ := hr
  have HX := Lib.hid hx
  clear hx hpl hfit
  obtain ⟨i0, hi, hz0, hz1, hz2⟩ := info_parts infoStr
  go_enter Tryd.func29, Tryd.ntmps29
  go_wp2
  go_loopw [5, 6] (fun v i wr => ∃ k : Nat, k ≤ l.length ∧ i = .int .i64 k ∧ wr.ownsRow w.heap.size 9 1 v (namesT (l.take k) n).length ((namesT (l.take k) n).map S) ∧ (namesT (l.take k) n).length ≤ k ∧ Below w.heap.size w wr) (fun _ i _ => l.length - (intOf i).toNat)
  case atStart => exact ⟨0, Nat.zero_le _, rfl, World.ownsRow_nil _ _ _ _, by simp [namesT], Below.refl _ _⟩
  case round =>
    obtain ⟨k, hk, rfl, hown, hdk, hB⟩ := hrel
    have hsz := hB.size
    by_cases h1 : k < l.length
    · have hx := HX.out
      rcases hx with hx | ⟨b, o, rfl, hx⟩
      · exfalso; rw [hx] at h1; simp at h1
      obtain ⟨hx1, -, -, -⟩ := it_cells hx h1
      have hc1 := cell_below hB hx1
      have HS := Lib.hid (namesT_step (d := n) h1)
      have hpl1 := HPL.out l[k] (List.getElem_mem h1)
      have hf1 := HFIT.out l[k] (List.getElem_mem h1)
      clear hx hx1
      generalize l[k] = y at *
      obtain ⟨p, d, ex, dt⟩ := y
      have h1' : (k : Int) < (l.length : Int) := by omega
      generalize namesT (l.take k) n = dn at *
      simp only at HS hc1 hpl1 hf1
      have CD := fun w => rdir_walk p w hpl1
      have CS := fun w => rsplit_walk p w hpl1
      obtain ⟨m, hm1, hm2⟩ := lastN_at hf1
      have hm8 := splitL_le p
      generalize lastN p = ln at *
      generalize dirL p = dp at *
      generalize splitL p = sp at *
      clear hf1
      by_cases hdn : dp = n
      · have hde : (dp == n) = true := by rw [beq_iff_eq]; exact hdn
        have HS1 := Lib.hid (show namesT (l.take (k + 1)) n = dn ++ [ln] by rw [HS.out, hde]; rfl)
        clear hdn HS
        go_wp2_with fail
        refine (CD _).mono ?_
        rintro e w1 ⟨rfl, hb1⟩
        have hB1 := below_chain hB hb1 hB.size
        replace hc1 := cell_below hb1 hc1
        have hown1 := own_on hown hb1
        clear hown hb1 CD
        go_wp2_with fail
        refine (CS _).mono ?_
        rintro e w2 ⟨vs, rfl, hrs, hb2⟩
        have hB2 := below_chain hB1 hb2 hB1.size
        have hown2 := own_on hown1 hb2
        clear hown1 hb2 CS hc1 hB
        obtain ⟨av, cs, rfl, hcs1, hcs2, hsx⟩ := hrs
        rcases hsx with hsx | ⟨bs, os, rfl, hsx⟩
        · exfalso; rw [hsx] at hm1; simp at hm1
        have hln := hsx m ln hm2
        clear hsx hm2
        have hsz2 := hB2.size
        rw [hm1] at hcs1 ⊢
        have hmx : (m : Int) ≤ 8 := by omega
        have hwr : IntKind.i64.wrap (m : Int) = (m : Int) := by rw [IntKind.wrap_i64]; omega
        have hwr2 : wrap64 (m : Int) = (m : Int) := by unfold wrap64; omega
        have hml : (m : Int) < ((m + 1 : Nat) : Int) := Int.ofNat_lt.2 (Nat.lt_succ_self m)
        have hm0 : ¬ ((m : Int) < 0) := Int.not_lt.2 (Int.natCast_nonneg m)
        clear hm1
        go_wp2_with (at_builtin; refine wpList_append_own _ rfl _ _ 49 rfl w.heap.size 9 i0 (.string ⟨#[]⟩) 1 16 Tryd.underlying49 hi hz0 hz1 hz2 rfl (by decide) _ _ _ rfl (hown2.alloc _) ⟨w2.heap.size, 0, none⟩ 1 1 [S ln] rfl rfl ?c1 ?c2 ?c3 ?c4 ?c5 ?_)
        case c1 => exact new_cell _ _ _
        case c2 => intro u hu; simp at hu; subst hu; rfl
        case c3 => unfold maxLen; omega
        case c4 => omega
        case c5 => simp; omega
        intro v' w3 hown' hgrow _
        have hB3 : Below w.heap.size w w3 := (hB2.alloc hsz2 _).grown hgrow (by simp; omega) (fun j hj => (hown2.lt j hj).1)
        clear hgrow hown2 hB2 hB1
        go_wp2
        go_roundw
        case rel => exact ⟨k + 1, by omega, by go_num, by rw [HS1.out]; simpa using hown', by rw [HS1.out]; simp; omega, hB3⟩
        case measure => simp [intOf]; omega
      · have hde : (dp == n) = false := by rw [beq_eq_false_iff_ne]; exact hdn
        have HS1 := Lib.hid (show namesT (l.take (k + 1)) n = dn by rw [HS.out, hde]; simp)
        clear hdn HS
        go_wp2_with (go_at_call 15; refine (CD _).mono ?_; rintro e w1 ⟨rfl, hb1⟩)
        go_roundw
        case rel => exact ⟨k + 1, by omega, by go_num, by rw [HS1.out]; exact own_on hown hb1, by rw [HS1.out]; omega, below_chain hB hb1 hB.size⟩
        case measure => simp [intOf]; omega
    · have h1' : ¬ (k : Int) < (l.length : Int) := by omega
      rw [List.take_of_length_le (by omega)] at hown
      have HO := Lib.hid hown
      clear hown
      go_wp2
      go_ret
      exact ⟨_, rfl, StrRow.of_owns HO.out, hB⟩
end Go.Proofs.YtnegnjagiejncaaDoor
