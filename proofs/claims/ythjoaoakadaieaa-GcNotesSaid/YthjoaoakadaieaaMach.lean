/- The machine that changes a disk: its block, its look for a file, its set. -/
import Derived.Test.YthjoaoakadaieaaBsDF
import Derived.Test.YthjoaoakadaieaaInsDF
import Derived.Test.YthjoaoakadaieaaCloDF
import Derived.Test.YthjoaoakadaieaaRPlace
import Derived.Test.YthjoaoakadaieaaRFit15b
import Derived.Shelf.RegionOpen
namespace Go.Proofs.Ythjoaoakadaieaa
open Go.RowKit

/-- The machine's block. -/
abbrev MBox (w : World) (b : Nat) (v : Value) (off : Bool) (fuse : Int) : Prop := w.heap[b]? = some (.cells #[v, .bool off, .int .i64 fuse] 78 (0, 0))
abbrev OwnF (w : World) (B : Nat) (v : Value) (l : List DF) : Prop := w.ownsRow B 50 3 v l.length (l.flatMap dfC)

/-- What lies below B lies as it lay, but for block b. -/
structure Alt (B b : Nat) (w w' : World) : Prop where
  below : Below b w w'
  size : w.heap.size ≤ w'.heap.size
  same : ∀ k, b < k → k < B → w'.heap[k]? = w.heap[k]?

theorem Alt.of_below {B b : Nat} {w w' : World} (h : Below B w w') (hb : b < B) : Alt B b w w' := ⟨h.mono (by omega), h.size, fun k _ hk => h.block k hk⟩
theorem Alt.trans {B b : Nat} {w w' w'' : World} (h : Alt B b w w') (k : Alt B b w' w'') : Alt B b w w'' := ⟨h.below.trans k.below, Nat.le_trans h.size k.size, fun i h1 h2 => (k.same i h1 h2).trans (h.same i h1 h2)⟩
theorem Alt.setCell {B b : Nat} {w w' : World} (h : Alt B b w w') (o : Nat) (u : Value) : Alt B b w (w'.setCell ⟨b, o, none⟩ u) :=
  ⟨h.below.setCell (p := ⟨b, o, none⟩) (Nat.le_refl _) u, by rw [show (w'.setCell ⟨b, o, none⟩ u).heap.size = w'.heap.size by simp [World.setCell]]; exact h.size, fun k h1 h2 => (Below.heap_setCell _ _ _ _ (by show k ≠ b; omega)).trans (h.same k h1 h2)⟩
theorem Alt.mono {B B' b : Nat} {w w' : World} (h : Alt B b w w') (hB : B' ≤ B) : Alt B' b w w' := ⟨h.below, h.size, fun k h1 h2 => h.same k h1 (by omega)⟩

theorem mbox_set {w : World} {b : Nat} {v : Value} {off : Bool} {fuse : Int} (h : MBox w b v off fuse) (v' : Value) : MBox (w.setCell ⟨b, 0, none⟩ v') b v' off fuse := by
  have := heap_set_cell (o := 0) h v'; simpa using this
theorem own_keep {w w' : World} {B e K n : Nat} {v : Value} {xs : List Value} (h : w.ownsRow B e K v n xs) (hk : ∀ g, B ≤ g → g < w.heap.size → w'.heap[g]? = w.heap[g]?) : w'.ownsRow B e K v n xs := by
  have hlt := h.lt
  obtain ⟨h1, h2⟩ := h
  refine ⟨h1, ?_⟩
  rcases h2 with h2 | ⟨g, cap, cur, rfl, hb, hg, h3⟩
  · exact .inl h2
  · exact .inr ⟨g, cap, cur, rfl, hb, (hk g hb (hlt g rfl).2).trans hg, h3⟩
theorem own_slice {w : World} {B e K n : Nat} {v : Value} {xs : List Value} (h : w.ownsRow B e K v n xs) : ∃ a m c, v = .slice a m c := by
  rcases h.2 with ⟨rfl, _⟩ | ⟨g, cap, cur, rfl, _⟩
  · exact ⟨_, _, _, rfl⟩
  · exact ⟨_, _, _, rfl⟩
theorem own_set {w : World} {B e K n b o : Nat} {v u : Value} {xs : List Value} (h : w.ownsRow B e K v n xs) (hb : b < B) : (w.setCell ⟨b, o, none⟩ u).ownsRow B e K v n xs :=
  own_keep h (fun g h1 _ => Below.heap_setCell _ _ _ _ (by show g ≠ b; omega))

set_option maxHeartbeats 1000000 in
theorem pmat_walk (b : Nat) (v : Value) (off : Bool) (fuse : Int) (l : List DF) (n : List UInt8) (w : World) (hm : MBox w b v off fuse) (hr : Row dfC w v l) (hcnt : l.length ≤ 1000000) (hup : upS (l.map DF.name)) :
    Calls Try.prog 44 #[.pointer (some ⟨b, 0, none⟩), S n] w fun e w' => e = .returned (.tuple #[.int .i64 (posL (l.map DF.name) n : Nat), .bool (decide (n ∈ l.map DF.name))]) ∧ Below w.heap.size w w' := by
  have C := bsDF_walk v _ l n w rfl hr hcnt hup
  have hc0 := heap_cell hm (j := 0) (v := v) rfl
  generalize posL (l.map DF.name) n = pp at *
  generalize decide (n ∈ l.map DF.name) = dd at *
  clear hup hr hm
  go_enter Try.func44, Try.ntmps44
  go_wp2_with (go_at_call 73; refine (C).mono ?_; rintro e w1 ⟨rfl, hb1⟩)
  go_ret2
  exact ⟨rfl, hb1⟩

set_option maxHeartbeats 1000000 in
theorem missing_walk (b : Nat) (v : Value) (off : Bool) (fuse : Int) (l : List DF) (n : List UInt8) (w : World) (hm : MBox w b v off fuse) (hr : Row dfC w v l) (hcnt : l.length ≤ 1000000) (hup : upS (l.map DF.name)) :
    Calls Try.prog 51 #[.pointer (some ⟨b, 0, none⟩), S n] w fun e w' => e = .returned (.int .i64 (if decide (n ∈ l.map DF.name) = true then 0 else 5)) ∧ Below w.heap.size w w' := by
  have C := pmat_walk b v off fuse l n w hm hr hcnt hup
  generalize posL (l.map DF.name) n = pp at *
  generalize decide (n ∈ l.map DF.name) = dd at *
  clear hup hr hm
  cases dd
  all_goals
    go_enter Try.func51, Try.ntmps51
    go_wp2_with (go_at_call 44; refine (C).mono ?_; rintro e w1 ⟨rfl, hb1⟩)
    go_ret
    exact ⟨rfl, hb1⟩
end Go.Proofs.Ythjoaoakadaieaa
