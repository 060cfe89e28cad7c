/- The reference's parts: what lies between the slashes. -/
import Derived.Test.YtdkmnolljllddaaDoorBase
namespace Go.Proofs.YtdkmnolljllddaaDoor
open Go.RowKit

theorem byte_ne {c : UInt8} (h : c ≠ 47) : ((c.toNat : Int) == 47) = false := by
  rw [beq_eq_false_iff_ne]; intro e; exact h (UInt8.toNat_inj.1 (by simp; omega))

set_option maxHeartbeats 1100000 in
set_option maxRecDepth 100000 in
theorem rparts_walk (l : List UInt8) (w : World) (hl : l.length ≤ 1100000) :
    Calls Tryd.prog 53 #[S l] w fun e w' => ∃ v, e = .returned v ∧ StrRow w' v (partsL l) ∧ Below w.heap.size w w' := by
  obtain ⟨i0, hi, hz0, hz1, hz2⟩ := info_parts infoStr
  go_enter Tryd.func53, Tryd.ntmps53
  go_wp2
  go_loopw [3, 4, 5] (fun v fr i wr => ∃ (k f : Nat) (dn : List (List UInt8)), i = .int .i64 k ∧ fr = .int .i64 f ∧ wr.ownsRow w.heap.size 9 1 v dn.length (dn.map S) ∧ Below w.heap.size w wr ∧ dn.length ≤ k ∧
      ((k ≤ l.length ∧ f ≤ k ∧ partsL l = dn ++ partsL (l.drop f) ∧ ∀ c ∈ cutL l f k, c ≠ 47) ∨ (k = l.length + 1 ∧ dn = partsL l)))
    (fun _ _ i _ => l.length + 1 - (intOf i).toNat)
  case atStart => exact ⟨0, 0, [], rfl, rfl, World.ownsRow_nil _ _ _ _, Below.refl _ _, Nat.zero_le _, .inl ⟨Nat.zero_le _, Nat.le_refl _, rfl, by rw [cutL_self]; intro c hc; cases hc⟩⟩
  case round =>
    obtain ⟨k, f, dn, rfl, rfl, hown, hB, hdk, hst⟩ := hrel
    rcases hst with ⟨hk, hf, hp, hn⟩ | ⟨hk, hd⟩
    · have HP := Lib.hid hp
      have HNs := Lib.hid hn
      clear hp hn
      have hsz := hB.size
      by_cases hke : k = l.length
      · have HE := Lib.hid (parts_step_end (Nat.le_of_eq hke.symm) HNs.out HP.out)
        have h1 : ((k : Int) == (l.length : Int)) = true := by rw [hke]; simp
        have h2 : (k : Int) ≤ (l.length : Int) := by omega
        have h3 : l.length ≤ k := by omega
        clear hke
        go_wp2_with (at_builtin; refine wpList_append_own _ rfl _ _ 53 rfl w.heap.size 9 i0 (.string ⟨#[]⟩) 1 16 Tryd.underlying53 hi hz0 hz1 hz2 rfl (by decide) _ _ _ rfl (hown.alloc _) ⟨wr.heap.size, 0, none⟩ 1 1 [.string (({ data := l.toArray } : ByteArray).extract f k)] rfl rfl ?c1 ?c2 ?c3 ?c4 ?c5 ?_)
        case c1 => exact new_cell _ _ _
        case c2 => intro u hu; simp at hu; subst hu; rfl
        case c3 => unfold maxLen; omega
        case c4 => omega
        case c5 => simp; omega
        intro v' w1 hown' hgrow _
        have hB1 : Below w.heap.size w w1 := (hB.alloc hsz _).grown hgrow (by simp; omega) (fun j hj => (hown.lt j hj).1)
        have HO := Lib.hid hown'
        clear hown' hgrow hown
        go_wp2
        go_roundw
        case rel =>
          refine ⟨k + 1, k + 1, dn ++ [cutL l f k], by go_num, by go_num, ?_, hB1, by simp; omega, .inr ⟨by omega, HE.out.symm⟩⟩
          have := HO.out
          rw [S_extract] at this
          simpa using this
        case measure => simp [intOf]; omega
      · have hlt : k < l.length := by omega
        have h1 : ((k : Int) == (l.length : Int)) = false := by rw [beq_eq_false_iff_ne]; omega
        have h2 : (k : Int) ≤ (l.length : Int) := by omega
        clear hke
        by_cases hs : l[k] = 47
        · have HE := Lib.hid (parts_step_slash hf hlt hs HNs.out HP.out)
          have hc : (({ data := l.toArray } : ByteArray)[k]'hlt).toNat = 47 := by show (l[k]).toNat = 47; rw [hs]; rfl
          clear hs
          go_wp2_with (at_builtin; refine wpList_append_own _ rfl _ _ 53 rfl w.heap.size 9 i0 (.string ⟨#[]⟩) 1 16 Tryd.underlying53 hi hz0 hz1 hz2 rfl (by decide) _ _ _ rfl (hown.alloc _) ⟨wr.heap.size, 0, none⟩ 1 1 [.string (({ data := l.toArray } : ByteArray).extract f k)] rfl rfl ?d1 ?d2 ?d3 ?d4 ?d5 ?_)
          case d1 => exact new_cell _ _ _
          case d2 => intro u hu; simp at hu; subst hu; rfl
          case d3 => unfold maxLen; omega
          case d4 => omega
          case d5 => simp; omega
          intro v' w1 hown' hgrow _
          have hB1 : Below w.heap.size w w1 := (hB.alloc hsz _).grown hgrow (by simp; omega) (fun j hj => (hown.lt j hj).1)
          have HO := Lib.hid hown'
          clear hown' hgrow hown
          go_wp2
          go_roundw
          case rel =>
            refine ⟨k + 1, k + 1, dn ++ [cutL l f k], by go_num, by go_num, ?_, hB1, by simp; omega, .inl ⟨by omega, Nat.le_refl _, HE.out, by rw [cutL_self]; intro c hc; cases hc⟩⟩
            have := HO.out
            rw [S_extract] at this
            simpa using this
          case measure => simp [intOf]; omega
        · have HE := Lib.hid (noslash_step hf hlt hs HNs.out)
          have hc : (((({ data := l.toArray } : ByteArray)[k]'hlt).toNat : Int) == 47) = false := byte_ne hs
          clear hs
          go_wp2
          go_roundw
          case rel => exact ⟨k + 1, f, dn, by go_num, rfl, hown, hB, by omega, .inl ⟨by omega, by omega, HP.out, HE.out⟩⟩
          case measure => simp [intOf]; omega
    · have h2 : ¬ (k : Int) ≤ (l.length : Int) := by omega
      subst hd
      clear hk
      go_wp2
      go_ret
      exact ⟨_, rfl, StrRow.of_owns hown, hB⟩
end Go.Proofs.YtdkmnolljllddaaDoor
