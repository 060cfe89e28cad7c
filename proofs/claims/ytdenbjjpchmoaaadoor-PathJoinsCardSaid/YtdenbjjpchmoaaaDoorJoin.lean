/- path.Join: slices.ContainsFunc over a closure, strings.Join. -/
import Derived.Test.YtdenbjjpchmoaaaDoorAny
namespace Go.Proofs.YtdenbjjpchmoaaaDoor
open Go.RowKit

set_option maxHeartbeats 400000 in
theorem join1_walk (l : List UInt8) (w : World) (hl : l.length ≤ 1000000) :
    Calls Tryd.prog 29 #[S l] w fun e w' => e = .returned (.bool (!nameB l)) ∧ Below w.heap.size w w' := by
  have C := name_walk l w hl
  generalize nameB l = nb at C ⊢
  go_enter Tryd.func29, Tryd.ntmps29
  go_wp2_with (go_at_call 9; refine C.mono ?_; rintro e w1 ⟨rfl, hb⟩)
  go_ret
  exact ⟨rfl, hb⟩

set_option maxHeartbeats 1000000 in
set_option maxRecDepth 100000 in
theorem indexfunc_walk (v : Value) (ns : List (List UInt8)) (w : World) (hr : StrRow w v ns) (hlen : ∀ p ∈ ns, p.length ≤ 1000000) (hcnt : ns.length ≤ 1000000) :
    Calls Tryd.prog 37 #[v, .func (.func 29) #[] #[]] w fun e w' => (∃ n, e = .returned (.int .i64 n) ∧ (0 ≤ n ↔ ns.all nameB = false)) ∧ Below w.heap.size w w' := by
  obtain ⟨a, c, rfl, hc, hm, hx⟩ := hr
  have HX := Lib.hid hx
  have HL := Lib.hid hlen
  clear hx hlen
  go_enter Tryd.func37, Tryd.ntmps37
  go_wp2
  go_loopw [5, 8] (fun _ i wr => ∃ k : Nat, k ≤ ns.length ∧ i = .int .i64 k ∧ (ns.take k).all nameB = true ∧ Below w.heap.size w wr) (fun _ i _ => ns.length - (intOf i).toNat)
  case atStart => exact ⟨0, Nat.zero_le _, rfl, rfl, Below.refl _ _⟩
  case round =>
    obtain ⟨k, hk, rfl, ha, hB⟩ := hrel
    have HA := Lib.hid ha
    have HB := Lib.hid hB
    clear ha
    by_cases hlt : k < ns.length
    · have hlt' : (k : Int) < (ns.length : Int) := by omega
      have hx := HX.out
      rcases hx with hx | ⟨b, o, rfl, hx⟩
      · exfalso; rw [hx] at hlt; simp at hlt
      have hcx := cell_below hB (hx k ns[k] (by simp [hlt]))
      have hpl : ns[k].length ≤ 1000000 := HL.out _ (List.getElem_mem hlt)
      have C2 := join1_walk ns[k] wr hpl
      have HT := Lib.hid (allN_take_succ ns k hlt)
      have HBD := Lib.hid (fun h => allN_bad hlt h)
      clear hx hB
      generalize ns[k] = p at *
      cases hn : nameB p
      · rw [hn] at C2
        have HF := Lib.hid (HBD.out hn)
        clear hn
        go_wp2_with (go_at_call 29; refine C2.mono ?_; rintro e w2 ⟨rfl, hb2⟩)
        go_ret
        exact ⟨⟨_, rfl, by rw [HF.out]; simp⟩, below_chain HB.out hb2 HB.out.size⟩
      · rw [hn] at C2
        have HF := Lib.hid hn
        clear hn
        go_wp2_with (go_at_call 29; refine C2.mono ?_; rintro e w2 ⟨rfl, hb2⟩)
        go_roundw
        case rel => exact ⟨k + 1, by omega, by go_num, by rw [HT.out, HA.out, HF.out]; rfl, below_chain HB.out hb2 HB.out.size⟩
        case measure => simp [intOf]; omega
    · have hlt' : ¬ (k : Int) < (ns.length : Int) := by omega
      have hal : ns.all nameB = true := by
        have := HA.out
        rwa [List.take_of_length_le (by omega)] at this
      have HAL := Lib.hid hal
      clear hal hB
      go_wp2
      go_ret
      exact ⟨⟨_, rfl, by have h := HAL.out; rw [List.all_eq_true] at h; exact ⟨fun h => by omega, fun ⟨x, hx, hn⟩ => by rw [h x hx] at hn; cases hn⟩⟩, HB.out⟩

set_option maxHeartbeats 400000 in
theorem containsfunc_walk (v : Value) (ns : List (List UInt8)) (w : World) (hr : StrRow w v ns) (hlen : ∀ p ∈ ns, p.length ≤ 1000000) (hcnt : ns.length ≤ 1000000) :
    Calls Tryd.prog 28 #[v, .func (.func 29) #[] #[]] w fun e w' => e = .returned (.bool (!ns.all nameB)) ∧ Below w.heap.size w w' := by
  have C := indexfunc_walk v ns w hr hlen hcnt
  generalize ns.all nameB = ab at C ⊢
  go_enter Tryd.func28, Tryd.ntmps28
  go_wp2_with (go_at_call 37; refine C.mono ?_; rintro e w1 ⟨⟨n, rfl, hn⟩, hw⟩)
  go_ret
  refine ⟨ret_bool ?_, hw⟩
  cases ab <;> simp

theorem intercalate_joinS : ∀ ns : List (List UInt8), [47].intercalate ns = joinS ns
  | [] => rfl
  | [a] => by simp [List.intercalate, joinS]
  | a :: b :: t => by
    have ih := intercalate_joinS (b :: t)
    show _ = a ++ 47 :: joinS (b :: t)
    rw [← ih]
    simp [List.intercalate, List.intersperse]

theorem sjoin_walk (v : Value) (ns : List (List UInt8)) (w : World) (hr : StrRow w v ns) (h8 : ns.length ≤ 8) (ha : ns.all nameB = true) :
    Calls Tryd.prog 30 #[v, S [47]] w fun e w' => e = .returned (S (joinS ns)) ∧ Below w.heap.size w w' := by
  obtain ⟨a, c, rfl, hc, hm, hx⟩ := hr
  rcases hx with rfl | ⟨b, o, rfl, hx⟩
  · refine (Tryd.strings_Join_none a c ⟨#[47]⟩ w).mono ?_
    rintro e w' ⟨rfl, rfl⟩
    exact ⟨rfl, Below.refl _ _⟩
  · have hmap : (ns.map (fun l => (⟨l.toArray⟩ : ByteArray))).map (·.data.toList) = ns := by rw [List.map_map]; exact List.map_id _
    by_cases hz : ns = []
    · subst hz
      refine (Tryd.strings_Join_none _ c ⟨#[47]⟩ w).mono ?_
      rintro e w' ⟨rfl, rfl⟩
      exact ⟨rfl, Below.refl _ _⟩
    have hlt : b < w.heap.size := by
      cases ns with
      | nil => exact absurd rfl hz
      | cons p ps => exact lt_of_cell (hx 0 p rfl)
    have hj : Lib.join ((ns.map (fun l => (⟨l.toArray⟩ : ByteArray))).map (·.data.toList)) [47] = joinS ns := by rw [hmap]; exact intercalate_joinS ns
    have hjl := joinS_len ns ha
    have C := Tryd.strings_Join b o c (ns.map (fun l => (⟨l.toArray⟩ : ByteArray))) ⟨#[47]⟩ w
      (fun j x hj => by
        rw [List.getElem?_map] at hj
        cases hn : ns[j]? with
        | none => rw [hn] at hj; cases hj
        | some y => rw [hn] at hj; simp at hj; rw [hx j y hn, ← hj])
      hlt (by simp; omega) (by simpa using hc) (by rw [show ((⟨#[47]⟩ : ByteArray).data.toList) = [47] from rfl, hj]; omega)
    rw [show ((⟨#[47]⟩ : ByteArray).data.toList) = [47] from rfl, hj, List.length_map] at C
    exact C

set_option maxHeartbeats 400000 in
theorem join_walk (v : Value) (ns : List (List UInt8)) (w : World) (hr : StrRow w v ns) (hlen : ∀ p ∈ ns, p.length ≤ 1000000) (hcnt : ns.length ≤ 1000000) :
    Calls Tryd.prog 20 #[v] w fun e w' => e = .returned (S (joinL ns)) ∧ Below w.heap.size w w' := by
  have HS := Lib.hid (show joinL ns = if ns.length ≤ 8 ∧ ns.all nameB = true then joinS ns else [] from rfl)
  have C := containsfunc_walk v ns w hr hlen hcnt
  have C2 := fun (w1 : World) (hr : StrRow w1 v ns) h8 ha => sjoin_walk v ns w1 hr h8 ha
  have hr0 := hr
  obtain ⟨a, c, rfl, hc, hm, hx⟩ := hr
  have HX := Lib.hid hr0
  clear hx hr0
  generalize joinL ns = jl at HS ⊢
  by_cases h8 : (8 : Int) < (ns.length : Int)
  · obtain rfl : jl = [] := by rw [HS.out, if_neg]; omega
    clear C C2
    go_enter Tryd.func20, Tryd.ntmps20
    go_wp2
    go_ret
    exact ⟨rfl, Below.refl _ _⟩
  · cases ha : ns.all nameB
    · obtain rfl : jl = [] := by rw [HS.out, if_neg]; rw [ha]; simp
      rw [ha] at C
      clear ha C2
      go_enter Tryd.func20, Tryd.ntmps20
      go_wp2_with (go_at_call 28; refine C.mono ?_; rintro e w1 ⟨rfl, hw⟩)
      go_ret
      exact ⟨rfl, hw⟩
    · obtain rfl : jl = joinS ns := by rw [HS.out, if_pos ⟨by omega, ha⟩]
      rw [ha] at C
      have HA := Lib.hid ha
      clear ha
      have C3 := Lib.hid C2
      clear C2
      go_enter Tryd.func20, Tryd.ntmps20
      go_wp2_with fail
      refine C.mono ?_
      rintro e w1 ⟨rfl, hw⟩
      go_wp2_with fail
      refine (C3.out w1 (HX.out.below hw) (by omega) HA.out).mono ?_
      rintro e w2 ⟨rfl, hw2⟩
      go_wp2
      go_ret
      exact ⟨rfl, below_chain hw hw2 hw.size⟩
end Go.Proofs.YtdenbjjpchmoaaaDoor
