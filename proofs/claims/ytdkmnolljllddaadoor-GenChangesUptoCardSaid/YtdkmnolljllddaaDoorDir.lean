/- path.Dir. -/
import Derived.Test.YtdkmnolljllddaaDoorSplit
import Derived.Test.YtdkmnolljllddaaDoorPathPlain
namespace Go.Proofs.YtdkmnolljllddaaDoor
open Go.RowKit

theorem take_dir {l : List UInt8} {i : Nat} (_h : i < l.length) (h1 : l = l.take i ++ 47 :: l.drop (i + 1)) (h2 : ∀ c ∈ l.drop (i + 1), c ≠ 47) (hf : fitB l = true) : dirL l = l.take i ∧ i ≠ 0 := by
  have hf' := hf
  rw [h1] at hf'
  obtain ⟨e, hne⟩ := dirL_slash h2 hf'
  rw [← h1] at e
  exact ⟨e, fun hz => hne (by rw [hz]; rfl)⟩

set_option maxHeartbeats 1100000 in
theorem dir_walk (l : List UInt8) (w : World) (hm : Mx w) (hl : l.length ≤ 1100000) :
    Calls Tryd.prog 92 #[S l] w fun e w' => e = .returned (S (dirL l)) ∧ Below w.heap.size w w' := by
  have C1 := Tryd.strings_LastIndexByte ⟨l.toArray⟩ 47 (by show l.length < _; omega) w
  have C2 := fit_walk l w hm hl
  have hls := lastSlash l
  generalize Lib.lastIndexByte ⟨l.toArray⟩ 47 = li at C1 hls
  by_cases hpos : 0 < li
  · rcases hls with ⟨h1, _⟩ | ⟨i, hi, h1, h2, h3⟩
    · omega
    subst h1
    have hip : (0 : Int) < (i : Int) := hpos
    cases hf : fitB l
    · rw [hf] at C2
      have HD := Lib.hid (dirL_unfit hf)
      clear hf h2 h3
      go_enter Tryd.func92, Tryd.ntmps92
      go_wp2_with (first | (go_at_call 113; refine C1.mono ?_; rintro e w1 ⟨rfl, rfl⟩) | (go_at_call 39; refine C2.mono ?_; rintro e w1 ⟨rfl, hb⟩))
      go_ret
      exact ⟨ret_str HD.out.symm, hb⟩
    · rw [hf] at C2
      have HD := Lib.hid (take_dir hi h2 h3 hf).1
      clear hf h2 h3
      go_enter Tryd.func92, Tryd.ntmps92
      go_wp2_with (first | (go_at_call 113; refine C1.mono ?_; rintro e w1 ⟨rfl, rfl⟩) | (go_at_call 39; refine C2.mono ?_; rintro e w1 ⟨rfl, hb⟩))
      go_ret
      exact ⟨by show Ending.returned (.string _) = _; rw [S_extract]; exact ret_str (by rw [HD.out]; rfl), hb⟩
  · have HD := Lib.hid (show dirL l = [] by
      rcases hls with ⟨_, h⟩ | ⟨i, hi, h1, h2, h3⟩
      · exact dirL_noslash h
      · cases hf : fitB l
        · exact dirL_unfit hf
        · have := (take_dir hi h2 h3 hf).2; omega)
    clear C2 hls
    go_enter Tryd.func92, Tryd.ntmps92
    go_wp2_with (go_at_call 113; refine C1.mono ?_; rintro e w1 ⟨rfl, rfl⟩)
    go_ret
    exact ⟨ret_str HD.out.symm, Below.refl _ _⟩
end Go.Proofs.YtdkmnolljllddaaDoor
