/- How much a fit node holds. -/
import Derived.Test.YtengciicdnkgaaaGreatDoorNodePlain
namespace Go.Proofs.YtengciicdnkgaaaGreatDoor

theorem fit_sizes {n : Nod} (hf : FitN n) : n.parts.length ≤ 1024 ∧ n.ents.length ≤ 60 ∧ n.data.length ≤ 4096 ∧ (∀ p ∈ n.parts, partOk p = true) ∧ (∀ e ∈ n.ents, entOk e = true) ∧ 1 ≤ n.kind ∧ n.kind ≤ 3 := by
  rcases hf with ⟨h1, h2, h3, h4, h5⟩ | ⟨h1, h2, h3, h4⟩ | ⟨h1, h2, h3, h4⟩
  · rw [h4, h5]; exact ⟨by simp, by simp, h3, by simp, by simp, by omega, by omega⟩
  · rw [h2, h3]; exact ⟨h4.len, by simp, by simp, h4.ok, by simp, by omega, by omega⟩
  · rw [h2, h3]; exact ⟨by simp, h4.len, by simp, by simp, h4.ok, by omega, by omega⟩
end Go.Proofs.YtengciicdnkgaaaGreatDoor
