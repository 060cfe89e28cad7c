/- What DiskBack's walk needs beside the plain law. -/
import Derived.Test.YthjoaoakadaieaaBackPlain
namespace Go.Proofs.Ythjoaoakadaieaa

theorem dec_le_false {a b : Int} (h : b < a) : decide (a ≤ b) = false := decide_eq_false (by omega)
theorem dec_leN_false {a b : Nat} (h : b < a) : decide (a ≤ b) = false := decide_eq_false (by omega)
theorem read_len {d : LD} {n : List UInt8} (h : FitP d) : (readD d n).1.length ≤ 262144 := by
  unfold readD
  cases hf : findF d.1 n with
  | none => simp
  | some f =>
    obtain ⟨_, _, h1, h2⟩ := (badF_iff f).1 (h.ok f (find_mem hf).1)
    exact seenL_len h1 h2
end Go.Proofs.Ythjoaoakadaieaa
