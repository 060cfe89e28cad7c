/- slices.Clone, at silo/api.Object. -/
import Derived.Test.YtffdcnhpjgpcdaaGreatDoorJRow
namespace Go.Proofs.YtffdcnhpjgpcdaaGreatDoor
open Go.RowKit

theorem cloInfoObj : (Tryz.prog.info? 24).map (fun i => (i.zero, i.size, i.bytes)) = some (some (.agg #[.string ⟨#[]⟩, .string ⟨#[]⟩]), 2, 32) := by kernel_rfl

set_option maxHeartbeats 1100000 in
set_option maxRecDepth 100000 in
theorem cloObj_walk (B : Nat) (a : Option Addr) (n c : Nat) (xs : List Value) (w : World) (hB : B ≤ w.heap.size) (hn : n ≤ 1100000) (hl : xs.length = n * 2) (hx : xs = [] ∨ ∃ b o, a = some ⟨b, o, none⟩ ∧ ∀ j u, xs[j]? = some u → w.cell? ⟨b, o + j, none⟩ = some u) (h1 : ∀ u ∈ xs, u.oneCell' = true) :
    Calls Tryz.prog 18 #[.slice a n c] w fun e w' => ∃ v', e = .returned v' ∧ w'.ownsRow B 24 2 v' n xs ∧ Below B w w' := by
  obtain ⟨i0, hi, hz0, hz1, hz2⟩ := info_parts cloInfoObj
  have hq : ∀ (w : World) (a : Option Addr) (n c n' c' : Nat), (binOp .eql 22 (.slice a n c) (.slice none n' c')).run Tryz.prog w = .ok (.bool a.isNone) w := fun w a n c n' c' => Lib.run_eql_slice_nil w _ _ a n c n' c' Tryz.underlying22
  cases a with
  | none =>
    have hxs : xs = [] := by
      rcases hx with hx | ⟨b, o, h, _⟩
      · exact hx
      · cases h
    subst hxs
    obtain rfl : n = 0 := by simp at hl; omega
    clear hx h1 hl
    go_enter Tryz.func18, Tryz.ntmps18
    go_wp2
    go_ret
    exact ⟨_, rfl, World.ownsRow_nil _ _ _ _, Below.refl _ _⟩
  | some ad =>
    have hm := World.ownsRow_made (base := B) (e := 24) (size := 2) w #[] 0 hB (by unfold maxLen; omega) (by simp)
    have hbw : ∀ j u, xs[j]? = some u → (w.alloc (.cells #[] 24)).cell? (ad.add j) = some u := by
      intro j u hj
      rcases hx with hx | ⟨b, o, h, hx⟩
      · rw [hx] at hj; simp at hj
      · cases h
        rw [Addr.add_lit]
        exact cell_old (hx j u hj) _
    clear hx
    go_enter Tryz.func18, Tryz.ntmps18
    go_wp2_with (at_builtin; refine wpList_append_own _ rfl _ _ 22 rfl B 24 i0 (.agg #[.string ⟨#[]⟩, .string ⟨#[]⟩]) 2 32 Tryz.underlying22 hi hz0 hz1 hz2 rfl (by decide) _ 0 [] rfl hm ad n c xs rfl (by omega) hbw h1 (by unfold maxLen; omega) (by omega) (by simp; omega) ?_)
    intro v' w1 hown' hgrow _
    go_wp2
    go_ret
    exact ⟨_, rfl, by simpa using hown', ((Below.refl _ _).alloc hB _).grown hgrow (by simp; omega) (fun j hj => (hm.lt j hj).1)⟩
end Go.Proofs.YtffdcnhpjgpcdaaGreatDoor
