/- The reference's Build of a tree. A row of texts that goes on through calls: its block stays, or is new. -/
import Derived.Test.YtkejdbidomlonaaGreatDoorRDir12
import Derived.Test.YtkejdbidomlonaaGreatDoorJItB
import Derived.Test.YtkejdbidomlonaaGreatDoorJRPut12
import Derived.Test.YtkejdbidomlonaaGreatDoorNodesT
namespace Go.Proofs.YtkejdbidomlonaaGreatDoor
open Go.RowKit

theorem among_nil (ks : List (List UInt8)) : Among ks [] := ⟨rfl, by simp [namesR]⟩
set_option maxHeartbeats 2000000 in
set_option maxRecDepth 100000 in
theorem rbuild12_walk (x k y z : Nat) (iv : Value) (items : List Itm) (w : World) (hf : FitC x k z) (hpk : 2 ^ k = y) (hrd : Ready (piecesC x k z) items) (hir : ItRow w iv items) :
    Calls Tryz.prog 8 #[PrmV x y z, iv] w fun e w' => ∃ v', e = .returned (.tuple #[S (keyN (dirN (piecesC x k z) items 9 [])), v']) ∧ SnpRow w' v' (dirO (piecesC x k z) items 9 [] []) ∧ Below w.heap.size w w' := by
  obtain ⟨w1, hw1, hb1, hc⟩ : ∃ w1, w1 = w.alloc (.cells #[.int .i64 (x : Nat), .int .i64 (y : Nat), .int .i64 (z : Nat)] 23) ∧ Below w.heap.size w w1 ∧ w1.heap[w.heap.size]? = some (.cells #[.int .i64 (x : Nat), .int .i64 (y : Nat), .int .i64 (z : Nat)] 23 (0, 0)) :=
    ⟨_, rfl, (Below.refl _ _).alloc (Nat.le_refl _) _, heap_alloc_new _ _⟩
  have c0 := heap_cell hc (j := 0) (v := .int .i64 (x : Nat)) rfl
  have c1 := heap_cell hc (j := 1) (v := .int .i64 (y : Nat)) rfl
  have c2 := heap_cell hc (j := 2) (v := .int .i64 (z : Nat)) rfl
  have CD := rdir12_walk x k y z iv items hf hpk hrd 9 0 (.slice none 0 0) [] [] w1 (hir.below hb1) (Row.nil _ _) (by omega) rfl (.inl rfl) (among_nil _)
  have HB1 := Lib.hid hb1
  generalize keyN (dirN (piecesC x k z) items 9 []) = kk at *
  generalize dirO (piecesC x k z) items 9 [] [] = oo at *
  obtain ⟨ia, ic, rfl⟩ := row_slice hir
  clear hc hb1 hir hrd hf hpk
  go_enter Tryz.func8, Tryz.ntmps8
  go_upto_region 1 with fail
  rw [← hw1]
  clear hw1
  go_wp2_with fail
  refine CD.mono ?_
  rintro e w2 ⟨v2, rfl, hg2, hb2⟩
  have HR2 := Lib.hid (hg2.row (Row.nil _ _) hb2)
  have HB2 := Lib.hid (below_chain HB1.out hb2 HB1.out.size)
  clear CD hg2 hb2
  go_wp2
  go_ret2
  exact ⟨_, rfl, HR2.out, HB2.out⟩
end Go.Proofs.YtkejdbidomlonaaGreatDoor

namespace Go.Proofs.YtkejdbidomlonaaGreatDoor
open Go.RowKit

/-- What lies below n stays, but the row's own block; the row's block is the one it had, or lies from n on. -/
structure RawGot (B n : Nat) (w w' : World) (ov v' : Value) (xs : List (List UInt8)) : Prop where
  own : w'.ownsRow B 9 1 v' xs.length (xs.map S)
  os : w'.os = w.os
  tape : w'.tape = w.tape
  output : w'.output = w.output
  size : w.heap.size ≤ w'.heap.size
  block : ∀ k, k < n → k < w.heap.size → some k ≠ ov.ownBlock → w'.heap[k]? = w.heap[k]?
  sep : v'.ownBlock = ov.ownBlock ∨ ∃ j, v'.ownBlock = some j ∧ n ≤ j ∧ w.heap.size ≤ j
section
variable {B n m : Nat} {w wr w' : World} {ov v v' : Value} {xs ys : List (List UInt8)}
theorem RawGot.start (h : w.ownsRow B 9 1 ov xs.length (xs.map S)) : RawGot B n w w ov ov xs := ⟨h, rfl, rfl, rfl, Nat.le_refl _, fun _ _ _ _ => rfl, .inl rfl⟩
theorem RawGot.trans (h : RawGot B n w wr ov v xs) (h2 : RawGot B m wr w' v v' ys) (hnm : n ≤ m) (_ : n ≤ w.heap.size) : RawGot B n w w' ov v' ys := by
  refine ⟨h2.own, h2.os.trans h.os, h2.tape.trans h.tape, h2.output.trans h.output, Nat.le_trans h.size h2.size, fun k hk hk2 hne => ?_, ?_⟩
  · refine (h2.block k (by omega) (Nat.lt_of_lt_of_le hk2 h.size) fun e => ?_).trans (h.block k hk hk2 hne)
    rcases h.sep with hs | ⟨j, hj, hj2, hj3⟩
    · exact hne (e.trans hs)
    · rw [hj] at e; injection e with e; omega
  · rcases h2.sep with hs | ⟨j, hj, hj2, hj3⟩
    · rw [hs]; exact h.sep
    · exact .inr ⟨j, hj, by omega, Nat.le_trans h.size hj3⟩
/-- The world goes on, but in blocks from n on that are not the row's. -/
theorem RawGot.step (h : RawGot B n w wr ov v xs) (h1 : w'.os = wr.os) (h2 : w'.tape = wr.tape) (h3 : w'.output = wr.output) (h4 : wr.heap.size ≤ w'.heap.size) (hk : ∀ k, k < wr.heap.size → k < n ∨ v.ownBlock = some k → w'.heap[k]? = wr.heap[k]?) (_ : n ≤ w.heap.size) : RawGot B n w w' ov v xs :=
  ⟨⟨h.own.1, h.own.2.imp id fun ⟨g, cap, cur, e1, e2, e3, e4⟩ => ⟨g, cap, cur, e1, e2, (hk g (heap_lt e3) (.inr (by rw [e1]; rfl))).trans e3, e4⟩⟩, h1.trans h.os, h2.trans h.tape, h3.trans h.output, Nat.le_trans h.size h4,
    fun k hk1 hk2 hne => (hk k (Nat.lt_of_lt_of_le hk2 h.size) (.inl hk1)).trans (h.block k hk1 hk2 hne), h.sep⟩
theorem RawGot.below (h : RawGot B n w wr ov v xs) (hb : Below wr.heap.size wr w') (hw : n ≤ w.heap.size) : RawGot B n w w' ov v xs := h.step hb.os hb.tape hb.output hb.size (fun k hk _ => hb.block k hk) hw
theorem RawGot.set (h : RawGot B n w wr ov v xs) {b o : Nat} {u : Value} (hb : n ≤ b) (hne : v.ownBlock ≠ some b) (hw : n ≤ w.heap.size) : RawGot B n w (wr.setCell ⟨b, o, none⟩ u) ov v xs :=
  h.step rfl rfl rfl (by simp) (fun k _ hk => Below.heap_setCell _ _ _ _ (by
    show k ≠ b
    rcases hk with hk | hk
    · omega
    · intro e; exact hne (e ▸ hk))) hw
/-- One more text, appended. -/
theorem RawGot.app (h : RawGot B n w wr ov v xs) {x : List UInt8} (h2 : w'.ownsRow B 9 1 v' (xs.length + 1) (xs.map S ++ [S x])) (hg : wr.grownBy w' v.ownBlock) (hs : v'.ownBlock = v.ownBlock ∨ v'.ownBlock = some wr.heap.size) (hw : n ≤ w.heap.size) : RawGot B n w w' ov v' (xs ++ [x]) :=
  h.trans (m := wr.heap.size) ⟨by simpa using h2, hg.os, hg.tape, hg.output, hg.size, fun k _ hk2 hne => hg.block k hk2 hne, hs.imp id fun e => ⟨_, e, Nat.le_refl _, Nat.le_refl _⟩⟩ (Nat.le_trans hw h.size) hw
/-- A block of another type is not the row's. -/
theorem RawGot.other (h : w.ownsRow B 9 1 v n (xs.map S)) {b : Nat} {cs : Array Value} {t : TypeId} (hb : w.heap[b]? = some (.cells cs t (0, 0))) (ht : 9 ≠ t) : v.ownBlock ≠ some b := by
  intro e
  rcases h.2 with ⟨h, _⟩ | ⟨g, cap, cur, h, _, hg, _⟩
  · rw [h] at e; simp [Value.ownBlock] at e
  · rw [h] at e; simp only [Value.ownBlock, Option.some.injEq] at e
    subst e
    rw [hg] at hb
    injection hb with hb
    injection hb with _ hb
    exact ht hb
theorem RawGot.base (h : RawGot B n w w' ov v' xs) {W0 : World} (hB : B = W0.heap.size) (hw0 : Below B W0 w) (hn : B ≤ n) (ho : ∀ j, ov.ownBlock = some j → B ≤ j) : Below B W0 w' := by
  have hs := hw0.size
  exact ⟨h.os.trans hw0.os, h.tape.trans hw0.tape, h.output.trans hw0.output, Nat.le_trans hw0.size h.size,
    fun k hk => (h.block k (by omega) (by omega) (fun e => by have := ho k e.symm; omega)).trans (hw0.block k hk)⟩
end
theorem texts_cell {w : World} {B n : Nat} {g c : Nat} {xs : List (List UInt8)} (h : w.ownsRow B 9 1 (.slice (some ⟨g, 0, none⟩) n c) n (xs.map S)) {j : Nat} {x : List UInt8} (hx : xs[j]? = some x) : w.cell? ⟨g, j, none⟩ = some (S x) := by
  have := h.cells (g := g) rfl j (S x) (by rw [List.getElem?_map, hx]; rfl)
  simpa [Addr.add_lit] using this
theorem rawsN_app (l m : List Nod) : rawsN (l ++ m) = rawsN l ++ rawsN m := by unfold rawsN; rw [List.map_append]
theorem rawsN_len (l : List Nod) : (rawsN l).length = l.length := by unfold rawsN; rw [List.length_map]
theorem nodesS_take {pc : List UInt8 → List (List UInt8)} {items : List Itm} {n : Nat} {d : List UInt8} (k : Nat) : (nodesS pc items n (inD (items.take k) d)).length + 1 ≤ (nodesD pc items (n + 1) d).length := by
  rw [nodesD_succ, List.length_append, List.length_singleton]
  have h : inD items d = inD (items.take k) d ++ inD (items.drop k) d := by
    unfold inD
    rw [← List.filter_append, List.take_append_drop]
  rw [h]
  unfold nodesS
  rw [List.flatMap_append, List.length_append]
  omega
end Go.Proofs.YtkejdbidomlonaaGreatDoor
