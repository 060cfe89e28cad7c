/- The reference's place of a file; rows without one. -/
import Derived.Test.YthjoaoakadaieaaDiskB
import Derived.Test.YthjoaoakadaieaaLater
namespace Go.Proofs.Ythjoaoakadaieaa
open Go.RowKit

/-- Where the file of a name is; -1: nowhere. -/
def placeD (l : List DF) (n : List UInt8) : Int := idxP (fun x => x.name == n) l

set_option maxHeartbeats 2000000 in
set_option maxRecDepth 100000 in
theorem rplace_walk (v : Value) (off : Bool) (fuse : Int) (l : List DF) (n : List UInt8) (w : World) (hr : Row dfC w v l) (hcnt : l.length ≤ 1000000) :
    Calls Try.prog 61 #[DiskV v off fuse, S n] w fun e w' => e = .returned (.int .i64 (placeD l n)) ∧ Below w.heap.size w w' := by
  obtain ⟨a, c, rfl, hc, hm, hx⟩ := hr
  have HX := Lib.hid hx
  clear hx
  have hb0 : Below w.heap.size w (w.alloc (.cells #[.slice a l.length c, .bool off, .int .i64 fuse] 35)) := (Below.refl _ _).alloc (Nat.le_refl _) _
  have hd0 := cell_new w #[.slice a l.length c, .bool off, .int .i64 fuse] 35 0 rfl
  go_enter Try.func61, Try.ntmps61
  go_wp2
  go_loopw [5] (fun i wr => ∃ k : Nat, k ≤ l.length ∧ i = .int .i64 k ∧ (∀ x ∈ l.take k, (x.name == n) = false) ∧ wr = w.alloc (.cells #[.slice a l.length c, .bool off, .int .i64 fuse] 35)) (fun i _ => l.length - (intOf i).toNat)
  case atStart => exact ⟨0, Nat.zero_le _, rfl, by simp, rfl⟩
  case round =>
    obtain ⟨k, hk, rfl, hall, hw⟩ := hrel
    have HALL := Lib.hid hall
    clear hall
    rw [← hw] at hb0 hd0
    have HW := Lib.hid hw
    clear hw
    by_cases h1 : k < l.length
    · have hx := HX.out
      rcases hx with hx | ⟨b, o, rfl, hx⟩
      · exfalso; rw [hx] at h1; simp at h1
      have hc1 := cell_below hb0 (df_cells hx h1).1
      have HE := Lib.hid (fun h => idxP_at (p := fun x : DF => x.name == n) h1 HALL.out h)
      have HN := Lib.hid (fun h => none_step (p := fun x : DF => x.name == n) h1 HALL.out h)
      clear hx
      generalize l[k] = y at *
      obtain ⟨nm, dt, ov, os⟩ := y
      simp only at hc1 HE HN
      have h1' : (k : Int) < (l.length : Int) := by omega
      obtain ⟨q, hq⟩ : ∃ q, (nm == n) = q := ⟨_, rfl⟩
      cases q with
      | true =>
        have HF := Lib.hid (HE.out hq)
        go_wp2
        go_ret
        exact ⟨by unfold placeD; rw [HF.out]; rfl, hb0⟩
      | false =>
        have HF := Lib.hid (HN.out hq)
        go_wp2
        go_roundw
        case rel => exact ⟨k + 1, by omega, by go_num, HF.out, HW.out⟩
        case measure => simp [intOf]; omega
    · have h1' : ¬ (k : Int) < (l.length : Int) := by omega
      have HF := Lib.hid (show placeD l n = -1 from idxP_none (by have := HALL.out; rwa [List.take_of_length_le (by omega)] at this))
      go_wp2
      go_ret
      exact ⟨by rw [HF.out]; rfl, hb0⟩

theorem without_step {l : List DF} {n : List UInt8} {k : Nat} (h : k < l.length) : withoutK DF.name (l.take (k + 1)) n = withoutK DF.name (l.take k) n ++ (if (l[k].name == n) = true then [] else [l[k]]) := by
  unfold withoutK
  rw [List.take_succ_eq_append_getElem h, List.filter_append]
  cases hc : (l[k].name == n) <;> simp [hc]

set_option maxHeartbeats 2000000 in
set_option maxRecDepth 100000 in
theorem rwithout_walk (v : Value) (l : List DF) (n : List UInt8) (w : World) (hr : FilesR w v l) (hcnt : l.length ≤ 1000000) :
    Calls Try.prog 66 #[v, S n] w fun e w' => ∃ v', e = .returned v' ∧ FilesR w' v' (withoutK DF.name l n) ∧ Below w.heap.size w w' := by
  have hops := hr.2
  obtain ⟨⟨a, c, rfl, hc, hm, hx⟩, _⟩ := hr
  have HX := Lib.hid hx
  have HO := Lib.hid hops
  clear hx hops
  obtain ⟨i0, hi, hz0, hz1, hz2⟩ := info_parts infoDF
  go_enter Try.func66, Try.ntmps66
  go_wp2
  go_loopw [5, 6] (fun v i wr => ∃ k : Nat, k ≤ l.length ∧ i = .int .i64 k ∧ wr.ownsRow w.heap.size 50 3 v (withoutK DF.name (l.take k) n).length ((withoutK DF.name (l.take k) n).flatMap dfC) ∧ (withoutK DF.name (l.take k) n).length ≤ k ∧ Below w.heap.size w wr) (fun _ i _ => l.length - (intOf i).toNat)
  case atStart => exact ⟨0, Nat.zero_le _, rfl, World.ownsRow_nil _ _ _ _, by simp [withoutK], Below.refl _ _⟩
  case round =>
    obtain ⟨k, hk, rfl, hown, hdk, hB⟩ := hrel
    have hsz := hB.size
    by_cases h1 : k < l.length
    · have hx := HX.out
      rcases hx with hx | ⟨b, o, rfl, hx⟩
      · exfalso; rw [hx] at h1; simp at h1
      obtain ⟨hx1, hx2, hx3⟩ := df_cells hx h1
      have hc1 := cell_below hB hx1
      have hc2 := cell_below hB hx2
      have hc3 := cell_below hB hx3
      have HS := Lib.hid (without_step (n := n) h1)
      have hov := oprow_one (HO.out l[k] (by simp))
      clear hx hx1 hx2 hx3
      generalize l[k] = y at *
      obtain ⟨nm, dt, ov, os⟩ := y
      simp only at hc1 hc2 hc3 HS hov
      have h1' : (k : Int) < (l.length : Int) := by omega
      generalize withoutK DF.name (l.take k) n = dn at *
      obtain ⟨q, hq⟩ : ∃ q, (nm == n) = q := ⟨_, rfl⟩
      cases q with
      | true =>
        have HS1 := Lib.hid (show withoutK DF.name (l.take (k + 1)) n = dn by rw [HS.out, if_pos hq, List.append_nil])
        have hpp : (nm != n) = false := by rw [bne, hq]; rfl
        clear HS
        go_wp2
        go_roundw
        case rel => exact ⟨k + 1, by omega, by go_num, by rw [HS1.out]; exact hown, by rw [HS1.out]; omega, hB⟩
        case measure => simp [intOf]; omega
      | false =>
        have HS1 := Lib.hid (show withoutK DF.name (l.take (k + 1)) n = dn ++ [⟨nm, dt, ov, os⟩] by rw [HS.out, if_neg (by rw [hq]; simp)])
        have hpp : (nm != n) = true := by rw [bne, hq]; rfl
        clear HS
        go_wp2_with (at_builtin; refine wpList_append_own _ rfl _ _ 33 rfl w.heap.size 50 i0 (.agg #[.string ⟨#[]⟩, .string ⟨#[]⟩, .slice none 0 0]) 3 56 Try.underlying33 hi hz0 hz1 hz2 rfl (by decide) _ _ _ rfl (hown.alloc _) ⟨wr.heap.size, 0, none⟩ 1 1 [S nm, S dt, ov] rfl rfl (new_cells3 _ _ _ _ _) (df3_one hov) (by unfold maxLen; omega) (by omega) (by simp; omega) ?_)
        intro v' w1 hown' hgrow _
        have hB1 : Below w.heap.size w w1 := (hB.alloc hsz _).grown hgrow (by simp; omega) (fun j hj => (hown.lt j hj).1)
        clear hgrow hown hB hc1 hc2 hc3
        go_wp2
        go_roundw
        case rel => exact ⟨k + 1, by omega, by go_num, by rw [HS1.out]; simpa using hown', by rw [HS1.out]; simp; omega, hB1⟩
        case measure => simp [intOf]; omega
    · have h1' : ¬ (k : Int) < (l.length : Int) := by omega
      rw [List.take_of_length_le (by omega)] at hown
      have HOW := Lib.hid hown
      clear hown
      go_wp2
      go_ret
      exact ⟨_, rfl, ⟨Row.of_ownsK dfC_len HOW.out, fun x hx => (HO.out x (List.mem_filter.1 hx).1).below hB⟩, hB⟩
end Go.Proofs.Ythjoaoakadaieaa
