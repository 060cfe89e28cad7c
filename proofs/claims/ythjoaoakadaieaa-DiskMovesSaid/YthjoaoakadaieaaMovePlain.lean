/- A file that has another name, a file that was taken away. No program in sight. -/
import Derived.Test.YthjoaoakadaieaaBackPlain
namespace Go.Proofs.Ythjoaoakadaieaa

/-- What is read behind a renaming and behind a removal. -/
structure MoveR (d c g : LD) (n m : List UInt8) : Prop where
  was : ∃ s, readD d n = (s, true) ∧ readD c m = (s, true)
  still : (readD c n).2 = (n == m)
  gone : (readD g n).2 = false
  other : ∀ x, x ≠ n → readD g x = readD d x ∧ (x ≠ m → readD c x = readD d x)
theorem move_reads {d c g : LD} {n m : List UInt8} (hc : renameD d n m = (c, 0)) (hg : removeD d n = (g, 0)) : MoveR d c g n m := by
  unfold renameD at hc
  unfold removeD at hg
  obtain ⟨h1, hw1, _, _⟩ := act_ok hc
  obtain ⟨h2, hw2, _, _⟩ := act_ok hg
  obtain ⟨f, hf⟩ := wrongN_some hw2
  have hfo : fileOf d n = f := by unfold fileOf; rw [hf]; rfl
  rw [hfo] at h1
  have hfc : ∀ x, findF c.1 x = if m = x then some (m, f.2) else if x = n then none else findF d.1 x := fun x => by
    rw [h1, find_with, find_without]
  have hfg : ∀ x, findF g.1 x = if x = n then none else findF d.1 x := fun x => by rw [h2, find_without]
  refine ⟨⟨seenL f.2.1 f.2.2, readD_some hf, readD_some (f := (m, f.2)) (by rw [hfc, if_pos rfl])⟩, ?_, ?_, fun x hx => ⟨readD_eq (by rw [hfg, if_neg hx]), fun hm => readD_eq (by rw [hfc, if_neg (fun e => hm e.symm), if_neg hx])⟩⟩
  · by_cases hnm : n = m
    · subst hnm
      rw [readD_some (f := (n, f.2)) (by rw [hfc, if_pos rfl])]; simp
    · rw [readD_none (by rw [hfc, if_neg (fun e => hnm e.symm), if_pos rfl])]
      simp [hnm]
  · rw [readD_none (by rw [hfg, if_pos rfl])]
end Go.Proofs.Ythjoaoakadaieaa
