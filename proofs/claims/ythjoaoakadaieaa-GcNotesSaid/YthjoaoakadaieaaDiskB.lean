/- A disk's files, and what may be lost of them, in memory. -/
import Derived.Test.YthjoaoakadaieaaRowG
import Derived.Test.YthjoaoakadaieaaDiskPlain
namespace Go.Proofs.Ythjoaoakadaieaa
open Go.RowKit

abbrev opC (o : Opn) : List Value := [.int .i64 o.1, S o.2]
abbrev OpV (o : Opn) : Value := .agg #[.int .i64 o.1, S o.2]
abbrev OpRow := Row opC
/-- A file in memory: ov is the slice of what may be lost. -/
structure DF where
  name : List UInt8
  data : List UInt8
  ov : Value
  ops : List Opn
abbrev dfC (x : DF) : List Value := [S x.name, S x.data, x.ov]
abbrev DFV (x : DF) : Value := .agg #[S x.name, S x.data, x.ov]
def DF.lo (x : DF) : LF := (x.name, x.data, x.ops)

theorem infoOp : (Try.prog.info? 69).map (fun i => (i.zero, i.size, i.bytes)) = some (some (.agg #[.int .i64 0, .string ⟨#[]⟩]), 2, 24) := by kernel_rfl
theorem infoDF : (Try.prog.info? 50).map (fun i => (i.zero, i.size, i.bytes)) = some (some (.agg #[.string ⟨#[]⟩, .string ⟨#[]⟩, .slice none 0 0]), 3, 56) := by kernel_rfl

theorem op_cells {w : World} {b o : Nat} {xs : List Opn} (h : ∀ j x, xs[j]? = some x → ∀ i u, (opC x)[i]? = some u → w.cell? ⟨b, o + j * (opC x).length + i, none⟩ = some u) {j : Nat} (hj : j < xs.length) :
    w.cell? ⟨b, o + j * 2, none⟩ = some (.int .i64 xs[j].1) ∧ w.cell? ⟨b, o + j * 2 + 1, none⟩ = some (S xs[j].2) :=
  ⟨h j xs[j] (by simp [hj]) 0 _ rfl, h j xs[j] (by simp [hj]) 1 _ rfl⟩
theorem df_cells {w : World} {b o : Nat} {xs : List DF} (h : ∀ j x, xs[j]? = some x → ∀ i u, (dfC x)[i]? = some u → w.cell? ⟨b, o + j * (dfC x).length + i, none⟩ = some u) {j : Nat} (hj : j < xs.length) :
    w.cell? ⟨b, o + j * 3, none⟩ = some (S xs[j].name) ∧ w.cell? ⟨b, o + j * 3 + 1, none⟩ = some (S xs[j].data) ∧ w.cell? ⟨b, o + j * 3 + 2, none⟩ = some xs[j].ov :=
  ⟨h j xs[j] (by simp [hj]) 0 _ rfl, h j xs[j] (by simp [hj]) 1 _ rfl, h j xs[j] (by simp [hj]) 2 _ rfl⟩

/-- The slice v reads as the files l, each with what may be lost of it. -/
def FilesR (w : World) (v : Value) (l : List DF) : Prop := Row dfC w v l ∧ ∀ x ∈ l, OpRow w x.ov x.ops
theorem FilesR.below {w w' : World} {v : Value} {l : List DF} (h : FilesR w v l) (hb : Below w.heap.size w w') : FilesR w' v l := ⟨h.1.below hb, fun x hx => (h.2 x hx).below hb⟩
theorem oprow_one {w : World} {v : Value} {l : List Opn} (h : OpRow w v l) : v.oneCell' = true := by
  obtain ⟨a, c, rfl, _⟩ := h; rfl
theorem op_one (l : List Opn) : ∀ u ∈ l.flatMap opC, u.oneCell' = true := flat_oneK (by
  intro x _ u hu; simp at hu; rcases hu with rfl | rfl <;> rfl)
theorem df_one {w : World} {l : List DF} (h : ∀ x ∈ l, OpRow w x.ov x.ops) : ∀ u ∈ l.flatMap dfC, u.oneCell' = true := flat_oneK (by
  intro x hx u hu; simp at hu; rcases hu with rfl | rfl | rfl
  · rfl
  · rfl
  · exact oprow_one (h x hx))
theorem df3_one {a b : List UInt8} {ov : Value} (h : ov.oneCell' = true) : ∀ u ∈ [S a, S b, ov], u.oneCell' = true := by
  intro u hu; simp at hu; rcases hu with rfl | rfl | rfl
  · rfl
  · rfl
  · exact h
theorem opC_len (x : Opn) : (opC x).length = 2 := rfl
theorem dfC_len (x : DF) : (dfC x).length = 3 := rfl

/-- A disk as a value. -/
abbrev DiskV (v : Value) (off : Bool) (fuse : Int) : Value := .agg #[v, .bool off, .int .i64 fuse]
def los (l : List DF) : List LF := l.map DF.lo
theorem los_names (l : List DF) : (los l).map (·.1) = l.map DF.name := by simp [los, DF.lo, Function.comp_def]
theorem los_len (l : List DF) : (los l).length = l.length := by simp [los]
end Go.Proofs.Ythjoaoakadaieaa
