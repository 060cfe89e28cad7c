/- The program's answers on trees: at, size, odd. -/
import Derived.Test.YtdkmnolljllddaaDoorBsItem
import Derived.Test.YtdkmnolljllddaaDoorR10
import Derived.Deep.CutRange
namespace Go.Proofs.YtdkmnolljllddaaDoor
open Go.RowKit

theorem bset4 {B : Nat} {w w' : World} (h : Below B w w') {g : Nat} (hg : B ≤ g) (a b c d : Value) : Below B w ((((w'.setCell ⟨g, 0, none⟩ a).setCell ⟨g, 1, none⟩ b).setCell ⟨g, 2, none⟩ c).setCell ⟨g, 3, none⟩ d) :=
  below_setT (below_setT (below_setT (below_setT h hg 0 a) hg 1 b) hg 2 c) hg 3 d

set_option maxHeartbeats 400000 in
theorem pat10_walk (v : Value) (l : List Itm) (n : List UInt8) (w : World) (hr : ItRow w v l) (hcnt : l.length ≤ 1100000) (hup : upT (l.map (·.1))) (hM : Mx w) (hnl : n.length ≤ 1100000) (hkl : ∀ x ∈ l, x.1.length ≤ 1100000) :
    Calls Tryd.prog 75 #[v, S n] w fun e w' => e = .returned (.tuple #[.int .i64 (posT (l.map (·.1)) n : Nat), .bool (decide (n ∈ l.map (·.1)))]) ∧ Below w.heap.size w w' := by
  have C := bsItem_walk v _ l n w rfl hr hcnt hup hM hnl hkl
  generalize decide (n ∈ l.map (fun x => x.1)) = is at *
  generalize posT (l.map (fun x => x.1)) n = k at *
  go_enter Tryd.func75, Tryd.ntmps75
  go_wp2_with (go_at_call 95; refine (C).mono ?_; rintro e w1 ⟨rfl, hb⟩)
  go_ret2
  exact ⟨rfl, hb⟩

set_option maxHeartbeats 1100000 in
set_option maxRecDepth 100000 in
theorem psize10_walk (v : Value) (l : List Itm) (w : World) (hr : ItRow w v l) (hcnt : l.length ≤ 1100000) (hs : sizeT l ≤ 1000000000000) :
    Calls Tryd.prog 93 #[v] w fun e w' => e = .returned (.int .i64 (sizeT l)) ∧ Below w.heap.size w w' := by
  obtain ⟨a, c, rfl, hc, hm, hx⟩ := hr
  have HX := Lib.hid hx
  clear hx
  go_enter Tryd.func93, Tryd.ntmps93
  go_wp2
  go_loopw [3, 8] (fun n i wr => ∃ k : Nat, k ≤ l.length ∧ i = .int .i64 k ∧ n = .int .i64 (sizeT (l.take k) : Nat) ∧ Below w.heap.size w wr) (fun _ i _ => l.length - (intOf i).toNat)
  case atStart => exact ⟨0, Nat.zero_le _, rfl, rfl, Below.refl _ _⟩
  case round =>
    obtain ⟨k, hk, rfl, rfl, hB⟩ := hrel
    have HB := Lib.hid hB
    by_cases h1 : k < l.length
    · have hx := HX.out
      rcases hx with hx | ⟨b, o, rfl, hx⟩
      · exfalso; rw [hx] at h1; simp at h1
      obtain ⟨hx1, hx2, hx3, hx4⟩ := it_cells hx h1
      have hc1 := cell_below hB hx1
      have hc2 := cell_below hB hx2
      have hc3 := cell_below hB hx3
      have hc4 := cell_below hB hx4
      have hz := sizeT_step h1
      have hz2 := sizeT_take l (k + 1)
      clear hx hx1 hx2 hx3 hx4 hB
      generalize l[k] = y at *
      obtain ⟨p, d, ex, dt⟩ := y
      simp only at hc1 hc2 hc3 hc4
      have HZ := Lib.hid hz
      simp only at hz
      have h1' : (k : Int) < (l.length : Int) := by omega
      have hz3 : sizeT (l.take k) + dt.length ≤ 1000000000000 := by omega
      have HZ4 := Lib.hid hz
      clear hz hz2 HZ
      generalize sizeT (l.take k) = s at *
      have r3 := cell_new wr #[S p, .bool d, .bool ex, S dt] 32 3 rfl
      go_wp2
      go_roundw
      case rel => exact ⟨k + 1, by omega, by go_num, by rw [HZ4.out]; go_num, HB.out.alloc HB.out.size _⟩
      case measure => simp [intOf]; omega
    · have h1' : ¬ (k : Int) < (l.length : Int) := by omega
      have HK := Lib.hid (show l.take k = l from List.take_of_length_le (by omega))
      go_wp2
      go_ret
      exact ⟨by rw [HK.out]; rfl, HB.out⟩

theorem pos_find {l : List Itm} {n : List UInt8} (hu : upT (l.map (·.1))) (h : n ∈ l.map (·.1)) : ∃ hk : posT (l.map (·.1)) n < l.length, findT l n = some l[posT (l.map (·.1)) n] ∧ l[posT (l.map (·.1)) n].1 = n := by
  have h1 := (memT_at_pos hu).1 h
  obtain ⟨hk, he⟩ := List.getElem?_eq_some_iff.1 h1
  have hk' : posT (l.map (·.1)) n < l.length := by simpa using hk
  have he' : l[posT (l.map (·.1)) n].1 = n := by simpa using he
  refine ⟨hk', ?_, he'⟩
  have := findT_of hu (List.getElem_mem hk')
  rwa [he'] at this
theorem pos_none {l : List Itm} {n : List UInt8} (h : n ∉ l.map (·.1)) : findT l n = none := by
  cases hf : findT l n with
  | none => rfl
  | some y =>
    obtain ⟨hy, e⟩ := findT_mem hf
    exact absurd (List.mem_map.2 ⟨y, hy, e⟩) h

set_option maxHeartbeats 400000 in
theorem podd10_walk (x : Itm) (w : World) : Calls Tryd.prog 94 #[ItV x] w fun e w' => e = .returned (.bool (oddT x)) ∧ Below w.heap.size w w' := by
  obtain ⟨p, dd, ex, dt⟩ := x
  have HODD := Lib.hid (show oddT (p, dd, ex, dt) = (dd && (!(dt == []) || ex)) from rfl)
  generalize oddT (p, dd, ex, dt) = od at *
  have hB1 : Below w.heap.size w (w.alloc (.cells #[S p, .bool dd, .bool ex, S dt] 32)) := (Below.refl _ _).alloc (Nat.le_refl _) _
  have HB := Lib.hid hB1
  clear hB1
  have r1 := cell_new w #[S p, .bool dd, .bool ex, S dt] 32 1 rfl
  have r2 := cell_new w #[S p, .bool dd, .bool ex, S dt] 32 2 rfl
  have r3 := cell_new w #[S p, .bool dd, .bool ex, S dt] 32 3 rfl
  cases dd with
  | false =>
    go_enter Tryd.func94, Tryd.ntmps94
    go_wp2
    go_ret
    exact ⟨by rw [HODD.out]; rfl, HB.out⟩
  | true =>
    cases hdt : (dt == []) with
    | false =>
      go_enter Tryd.func94, Tryd.ntmps94
      go_wp2
      go_ret
      exact ⟨by rw [HODD.out, hdt]; rfl, HB.out⟩
    | true =>
      go_enter Tryd.func94, Tryd.ntmps94
      go_wp2
      go_ret
      exact ⟨by rw [HODD.out, hdt]; rfl, HB.out⟩
end Go.Proofs.YtdkmnolljllddaaDoor
