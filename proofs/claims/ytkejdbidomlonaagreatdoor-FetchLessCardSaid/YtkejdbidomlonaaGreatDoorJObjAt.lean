/- The program's look for a key among objects. Worlds in which one block alone turns. A reader of bytes in memory: its cells. A law for a range over a function whose iterator keeps state of its own in cells: the iterator may turn the blocks Pv, and asks that a round keep what Kp says. Worlds that turn in named blocks alone: what stays. -/
import Derived.Test.YtkejdbidomlonaaGreatDoorJItB
import Derived.Test.YtkejdbidomlonaaGreatDoorJSnpPlain
import Derived.Test.YtkejdbidomlonaaGreatDoorJNodeFit
import Derived.Maps.AppendAt
import Derived.RangeFuncNested
import Derived.RangeFuncBound
import Derived.RangeFuncCalls
import Derived.RangeFuncLeaves
import Derived.Shelf.Abstract
import Derived.Shelf.RegionOpen
import Derived.WalkKit
import Derived.OwnWalkIn
import Derived.TacticsInMore
import Derived.LoopNIn
import Derived.LoopIn
import Derived.Test.YtkejdbidomlonaaGreatDoorJPlain
import Derived.RangeFuncBox
namespace Go.Proofs.YtkejdbidomlonaaGreatDoor
open Go.RowKit

set_option maxHeartbeats 400000 in
theorem ato1_walk (x : Snp) (n : List UInt8) (w : World) : Calls Tryz.prog 100 #[SnpV x, S n] w fun e w' => e = .returned (.int .i64 (cmpS x.1 n)) ∧ Below w.heap.size w w' := by
  obtain ⟨p, q⟩ := x
  have C := fun w => compare_walk p n w
  simp only
  generalize cmpS p n = r at *
  go_enter Tryz.func100, Tryz.ntmps100
  go_wp2_with (go_at_call 101; refine (C _).mono ?_; rintro e w1 ⟨rfl, rfl⟩)
  go_ret
  exact ⟨rfl, (Below.refl _ _).alloc (Nat.le_refl _) _⟩

theorem namesO_at {l : List Snp} {h : Nat} (hh : h < l.length) : (l.map (·.1))[h]'(by simpa using hh) = l[h].1 := by simp

set_option maxHeartbeats 2000000 in
set_option maxRecDepth 100000 in
theorem bsearchO_walk (v fv : Value) (l : List Snp) (n : List UInt8) (w : World) (hfv : fv = .func (.func 100) #[] #[]) (hr : SnpRow w v l) (hcnt : l.length ≤ 1100000) (hup : upS (l.map (·.1))) :
    Calls Tryz.prog 99 #[v, S n, fv] w fun e w' => e = .returned (.tuple #[.int .i64 (posL (l.map (·.1)) n : Nat), .bool (decide (n ∈ l.map (·.1)))]) ∧ Below w.heap.size w w' := by
  subst hfv
  obtain ⟨a, c, rfl, hc, hm, hx⟩ := hr
  have HX := Lib.hid hx
  have HUP := Lib.hid hup
  clear hx hup
  go_enter Tryz.func99, Tryz.ntmps99
  go_wp2
  go_loopw [9, 10] (fun i j wr => ∃ a b : Nat, a ≤ b ∧ b ≤ l.length ∧ i = .int .i64 a ∧ j = .int .i64 b ∧ (∀ y ∈ (l.map (·.1)).take a, y < n) ∧ (∀ y ∈ (l.map (·.1)).drop b, ¬ y < n) ∧ Below w.heap.size w wr) (fun i j _ => (intOf j).toNat - (intOf i).toNat)
  case atStart => exact ⟨0, l.length, Nat.zero_le _, Nat.le_refl _, rfl, rfl, by simp, by rw [List.drop_eq_nil_of_le (by simp)]; simp, Below.refl _ _⟩
  case round =>
    obtain ⟨a0, b0, hab, hb, rfl, rfl, hlo, hhi, hB⟩ := hrel
    have HLO := Lib.hid hlo
    have HHI := Lib.hid hhi
    have HB := Lib.hid hB
    clear hlo hhi
    by_cases h1 : a0 < b0
    · obtain ⟨hk1, hk2⟩ := half h1
      have hkl : (a0 + b0) / 2 < l.length := by omega
      have hx := HX.out
      rcases hx with hx | ⟨b, o, rfl, hx⟩
      · exfalso; rw [hx] at hkl; simp at hkl
      obtain ⟨hx1, hx2⟩ := snp_cells hx hkl
      have hc1 := cell_below hB hx1
      have hc2 := cell_below hB hx2
      have HA := Lib.hid (fun h => up_before (n := n) (h := (a0 + b0) / 2) HUP.out (by simpa using hkl) h)
      have HD := Lib.hid (fun h => up_behind (n := n) (h := (a0 + b0) / 2) HUP.out (by simpa using hkl) h)
      rw [namesO_at hkl] at HA HD
      clear hx hx1 hx2 hB
      have CL := fun w => ato1_walk l[(a0 + b0) / 2] n w
      have h3 := three_ways l[(a0 + b0) / 2].1 n
      generalize l[(a0 + b0) / 2] = y at *
      obtain ⟨p, q⟩ := y
      simp only at CL h3 HA HD
      have h1' : (a0 : Int) < (b0 : Int) := by omega
      rcases h3 with ⟨hc, hlt, _⟩ | ⟨hc, rfl, _⟩ | ⟨hc, hlt, _⟩
      · have HF := Lib.hid (HA.out hlt)
        rw [hc] at CL
        clear hc hlt
        go_wp2_with (go_at_call 100; refine (CL _).mono ?_; rintro e w1 ⟨rfl, hb1⟩)
        go_roundw
        case rel => exact ⟨(a0 + b0) / 2 + 1, b0, by omega, by omega, by go_num, rfl, HF.out, HHI.out, below_chain HB.out hb1 HB.out.size⟩
        case measure => simp [intOf]; omega
      · have HF := Lib.hid (HD.out (List.lt_irrefl _))
        rw [hc] at CL
        clear hc
        go_wp2_with (go_at_call 100; refine (CL _).mono ?_; rintro e w1 ⟨rfl, hb1⟩)
        go_roundw
        case rel => exact ⟨a0, (a0 + b0) / 2, by omega, by omega, rfl, by go_num, HLO.out, HF.out, below_chain HB.out hb1 HB.out.size⟩
        case measure => simp [intOf]; omega
      · have HF := Lib.hid (HD.out (not_lt_of hlt))
        rw [hc] at CL
        clear hc hlt
        go_wp2_with (go_at_call 100; refine (CL _).mono ?_; rintro e w1 ⟨rfl, hb1⟩)
        go_roundw
        case rel => exact ⟨a0, (a0 + b0) / 2, by omega, by omega, rfl, by go_num, HLO.out, HF.out, below_chain HB.out hb1 HB.out.size⟩
        case measure => simp [intOf]; omega
    · obtain rfl : a0 = b0 := by omega
      have HP := Lib.hid (posL_at (n := n) (by simpa using hb) HLO.out (fun h => HHI.out _ (by rw [List.drop_eq_getElem_cons h]; simp)))
      by_cases h2 : a0 < l.length
      · have hx := HX.out
        rcases hx with hx | ⟨b, o, rfl, hx⟩
        · exfalso; rw [hx] at h2; simp at h2
        obtain ⟨hx1, hx2⟩ := snp_cells hx h2
        have hc1 := cell_below hB hx1
        have hc2 := cell_below hB hx2
        have HM := Lib.hid (mem_at HUP.out HP.out (by simpa using h2))
        rw [namesO_at h2] at HM
        clear hx hx1 hx2 hB
        have CL := fun w => ato1_walk l[a0] n w
        generalize l[a0] = y at *
        obtain ⟨p, q⟩ := y
        simp only at CL HM
        have h2' : (a0 : Int) < (l.length : Int) := by omega
        generalize cmpS p n = r at *
        go_wp2_with (go_at_call 100; refine (CL _).mono ?_; rintro e w1 ⟨rfl, hb1⟩)
        go_ret2
        exact ⟨by rw [HP.out, HM.out]; rfl, below_chain HB.out hb1 HB.out.size⟩
      · have h2' : ¬ (a0 : Int) < (l.length : Int) := by omega
        have HM := Lib.hid (mem_end HUP.out (HP.out.trans (by simp; omega)))
        go_wp2
        go_ret2
        exact ⟨by rw [HP.out, HM.out]; rfl, HB.out⟩

theorem pato_walk (v : Value) (l : List Snp) (n : List UInt8) (w : World) (hr : SnpRow w v l) (hcnt : l.length ≤ 1100000) (hup : upS (l.map (·.1))) :
    Calls Tryz.prog 80 #[v, S n] w fun e w' => e = .returned (.tuple #[.int .i64 (posL (l.map (·.1)) n : Nat), .bool (decide (n ∈ l.map (·.1)))]) ∧ Below w.heap.size w w' := by
  have C := bsearchO_walk v _ l n w rfl hr hcnt hup
  generalize posL (l.map (·.1)) n = pp at *
  generalize decide (n ∈ l.map (·.1)) = dd at *
  go_enter Tryz.func80, Tryz.ntmps80
  go_wp2_with (go_at_call 99; refine (C).mono ?_; rintro e w1 ⟨rfl, hb1⟩)
  go_ret2
  exact ⟨rfl, hb1⟩

set_option maxHeartbeats 1100000 in
set_option maxRecDepth 100000 in
theorem pget_walk (v : Value) (l : List Snp) (n : List UInt8) (w : World) (hr : SnpRow w v l) (hcnt : l.length ≤ 1100000) (hup : upS (namesR l)) :
    Calls Tryz.prog 55 #[v, S n] w fun e w' => e = .returned (.tuple #[S (rootOf (findR l n)), .bool (findR l n).isSome]) ∧ Below w.heap.size w w' := by
  have C := pato_walk v l n w hr hcnt hup
  obtain ⟨a, c, rfl, hc, hm, hx⟩ := hr
  by_cases hin : n ∈ namesR l
  · obtain ⟨hk, hf⟩ := findR_pos hup hin
    have HF := Lib.hid hf
    have hin2 : decide (n ∈ l.map (·.1)) = true := by simpa [namesR] using hin
    rw [hin2] at C
    have hpp : posL (l.map (·.1)) n = posL (namesR l) n := rfl
    rw [hpp] at C
    clear hf hin hin2 hpp hup
    rcases hx with hx | ⟨b, o, rfl, hx⟩
    · exfalso; rw [hx] at hk; simp at hk
    obtain ⟨hx1, hx2⟩ := snp_cells hx hk
    clear hx
    generalize posL (namesR l) n = k at *
    generalize l[k] = y at *
    obtain ⟨p, q⟩ := y
    have hk' : (k : Int) < (l.length : Int) := by omega
    rw [HF.out]
    go_enter Tryz.func55, Tryz.ntmps55
    go_wp2_with (go_at_call 80; refine C.mono ?_; rintro e w1 ⟨rfl, hb⟩; have hc1 := cell_below hb hx1; have hc2 := cell_below hb hx2)
    go_ret2
    exact ⟨rfl, hb⟩
  · have HF := Lib.hid (findR_none hin)
    have hin2 : decide (n ∈ l.map (·.1)) = false := by simpa [namesR] using hin
    rw [hin2] at C
    clear hin hin2 hx
    rw [HF.out]
    generalize posL (l.map (·.1)) n = k at *
    go_enter Tryz.func55, Tryz.ntmps55
    go_wp2_with (go_at_call 80; refine (C).mono ?_; rintro e w1 ⟨rfl, hb⟩)
    go_ret2
    exact ⟨rfl, hb⟩
end Go.Proofs.YtkejdbidomlonaaGreatDoor

namespace Go.Proofs.YtkejdbidomlonaaGreatDoor
open Go.RowKit

/-- Of the old blocks only g may have turned. -/
abbrev Gro (g : Nat) (w w' : World) : Prop := w.grownBy w' (some g)
theorem gro_of {g : Nat} {w w' : World} (h : Below w.heap.size w w') : Gro g w w' := ⟨h.os, h.tape, h.output, h.size, fun k hk _ => h.block k hk⟩
theorem gro_chain {g : Nat} {w w1 w2 : World} (h : Gro g w w1) (h2 : Below w1.heap.size w1 w2) : Gro g w w2 := World.grownBy.trans h (gro_of h2)
theorem gro_set {g : Nat} {w w1 : World} (h : Gro g w w1) (o : Nat) (v : Value) : Gro g w (w1.setCell ⟨g, o, none⟩ v) :=
  World.grownBy.trans h ⟨rfl, rfl, rfl, by simp, fun k hk hne => by
    have hne' : k ≠ g := fun e => hne (by rw [e])
    simp [World.setCell, Array.getElem?_modify, hne'.symm]⟩
theorem gro_below {g B : Nat} {w w' : World} (h : Gro g w w') (hg : B ≤ g) (hw : B ≤ w.heap.size) : Below B w w' :=
  (Below.refl B w).grown h hw (fun j hj => by cases hj; exact hg)
theorem gro_cell {g : Nat} {w w' : World} (h : Gro g w w') {b o : Nat} {v : Value} (hb : b ≠ g) (hc : w.cell? ⟨b, o, none⟩ = some v) : w'.cell? ⟨b, o, none⟩ = some v :=
  h.cell hc (fun e => hb (Option.some.inj e))
theorem gro_own {g : Nat} {w w' : World} {base e k n : Nat} {v : Value} {xs : List Value} (h : w.ownsRow base e k v n xs) (hb : Gro g w w') (hg : g < base) : w'.ownsRow base e k v n xs :=
  h.kept hb (by
    rcases h.2 with ⟨h, _⟩ | ⟨b, cap, cur, h, hge, _⟩
    · rw [h]; exact .inl rfl
    · rw [h]; refine .inr ?_; simp [Value.ownBlock]; omega)
theorem gro_row {α : Type} {f : α → List Value} {g : Nat} {w w' : World} {v : Value} {l : List α} (h : Row f w v l) (hb : Gro g w w') (hg : ∀ j, v.ownBlock = some j → j ≠ g) : Row f w' v l := by
  obtain ⟨a, c, rfl, hc, hm, hx⟩ := h
  refine ⟨a, c, rfl, hc, hm, ?_⟩
  rcases hx with hx | ⟨b, o, rfl, hx⟩
  · exact .inl hx
  · exact .inr ⟨b, o, rfl, fun j x hj i u hu => gro_cell hb (hg b (by simp [Value.ownBlock])) (hx j x hj i u hu)⟩
end Go.Proofs.YtkejdbidomlonaaGreatDoor

namespace Go.Proofs.YtkejdbidomlonaaGreatDoor
open Go.RowKit

/-- The reader at block g: what is left, and whether all was right so far. -/
def RdAt (w : World) (g : Nat) (s : List UInt8) (ok : Bool) : Prop :=
  ∃ ev, w.heap[g]? = some (.cells #[S s, ev] 134 (0, 0)) ∧ ((ok = true ∧ ev = .nilIface) ∨ (ok = false ∧ ∃ b, ev = .iface 136 (.pointer (some ⟨b, 0, none⟩))))
theorem RdAt.below {w w' : World} {g : Nat} {s : List UInt8} {ok : Bool} (h : RdAt w g s ok) (hb : Below w.heap.size w w') : RdAt w' g s ok := by
  obtain ⟨ev, h1, h2⟩ := h
  exact ⟨ev, (hb.block g (heap_lt h1)).trans h1, h2⟩
end Go.Proofs.YtkejdbidomlonaaGreatDoor

namespace Go.Proofs.YtkejdbidomlonaaGreatDoor
open Go.RowKit

/-- What an iterator may turn between two rounds: its own blocks; a walk's object that was laid since. -/
def Stays {β : Type} (Pv : Nat → Prop) (N : Nat) (J : β → World → Prop) : Prop :=
  ∀ s A B row, J s A → A.grownBy B row → (∀ r, row = some r → Pv r ∨ (N ≤ r ∧ ∃ o : Obj, A.heap[r]? = some o ∧ o.isWalk = true)) → J s B

/-- What a caller's invariant must bear: a turn of the iterator's own blocks, and of a block from N on that holds no cells. -/
def Bides {β : Type} (Pv : Nat → Prop) (N : Nat) (J : β → World → Prop) : Prop :=
  ∀ s A B row, J s A → A.grownBy B row → (∀ r, row = some r → Pv r ∨ (N ≤ r ∧ ∃ o : Obj, A.heap[r]? = some o ∧ o.isCells = false)) → J s B

/-- The contract of an iterator that hands out xs, one by one, till a round says no. -/
def IterOf {α : Type} (P : Program) (g : Nat) (lb : Array Value) (Pv : Nat → Prop) (Kp : World → World → Prop) (encs : α → Array Value) (xs : List α) (w : World) : Prop :=
  ∀ (l : Nat) (J Jx : List α → World → Prop) (W : World), Kp w W → w.heap.size ≤ W.heap.size → Stays Pv W.heap.size J → Stays Pv W.heap.size Jx →
    (∀ pre x W1, J pre W1 → pre ++ [x] <+: xs → YieldAt Fence.wide 2 P l (encs x) W1 fun e W' =>
      (e = .returned (.bool true) ∧ J (pre ++ [x]) W' ∧ Kp W1 W') ∨ (e = .returned (.bool false) ∧ Jx (pre ++ [x]) W')) →
    J [] W →
    Calls P g (#[.func (.yield l) #[] #[]] ++ lb) W fun e W' => (∃ v, e = .returned v) ∧ (J xs W' ∨ ∃ pre, pre <+: xs ∧ Jx pre W')

theorem Bides.put {β : Type} {Pv : Nat → Prop} {N : Nat} {J : β → World → Prop} (h : Bides Pv N J) {s : β} {W : World} {l : Nat} {o : Obj} (o' : Obj) (hs : J s W) (hN : N ≤ l) (hl : W.heap[l]? = some o) (ho : o.isCells = false) : J s (W.putObj l o') :=
  h s W _ (some l) hs (grownBy_putObj' W l o') (fun r e => by cases e; exact .inr ⟨hN, o, hl, ho⟩)
theorem Bides.new {β : Type} {Pv : Nat → Prop} {N : Nat} {J : β → World → Prop} (h : Bides Pv N J) {s : β} {W : World} (o : Obj) (hs : J s W) : J s (W.alloc o) :=
  h s W _ none hs (World.grownBy_alloc W o none) (fun r e => by cases e)
theorem Bides.and {β : Type} {Pv : Nat → Prop} {N : Nat} {J J' : β → World → Prop} (h : Bides Pv N J) (h' : Bides Pv N J') : Bides Pv N (fun s W => J s W ∧ J' s W) :=
  fun s A B row hs hg hr => ⟨h s A B row hs.1 hg hr, h' s A B row hs.2 hg hr⟩

section
variable {P : Program}

/-- The law, at a loop that stands in no other loop's round. -/
theorem range_law {α : Type} {g : Operand} {ps : Array Tmp} {assign body : Code} {Q : Exit → Act → World → Prop} {a : Act} {w : World}
    {gf : Nat} {lb : Array Value} (hg : a.eval g = .func (.func gf) #[] lb) (eg : ∀ args w, (callFunc gf args).run P w = .ok (.enter gf args) w)
    {Pv : Nat → Prop} {Kp : World → World → Prop} {encs : α → Array Value} {xs : List α} (hseq : IterOf P gf lb Pv Kp encs xs w) (hPv : ∀ r, Pv r → r < w.heap.size)
    (hKt : ∀ {A B C : World}, Kp A B → Kp B C → Kp A C) (hKb : ∀ (W : World) (l : Nat) (o : Obj), w.heap.size ≤ l → Kp W (W.putObj l o)) (hKa : ∀ o o', Kp w ((w.alloc o).alloc o')) (hps : ∀ x, (encs x).size = ps.size)
    (I : List α → World → Prop) (Ix : Code → List α → World → Prop) (hI : Bides Pv w.heap.size I) (hIx : ∀ c, Bides Pv w.heap.size (Ix c)) (h0 : I [] w)
    (Ax : α → Act → World → Prop) (hAx : ∀ x a', Bides Pv w.heap.size (fun (_ : Unit) W => Ax x a' W))
    (hassign : ∀ (l : Nat) (pre : List α) (x : α) (W : World) (K : Act → World → Prop), I pre W → (∀ a' W', KeepsFrom w.heap.size W W' → Kp W W' → I pre W' → Ax x a' W' → K a' W') →
      assign.wpIn (Fence.wide.inRound l) 2 P (Exit.then K (fun _ _ _ => False)) { tmps := (ps.zip (encs x)).foldl (fun t (p, v) => t.setIfInBounds p v) a.tmps, defers := [] } W)
    (hbody : ∀ (l : Nat) (pre : List α) (x : α) (a' : Act) (W : World), w.heap.size ≤ l → (∃ r, W.heap[l]? = some (.loop r)) → I pre W → Ax x a' W → pre ++ [x] <+: xs →
      body.wpIn (Fence.wide.inRound l) 2 P (ownPostG w.heap.size Kp I Ix (pre ++ [x]) W) a' W)
    (hdone : ∀ (D : Nat) (W : World), w.heap.size ≤ D → I xs W → W.heap[D]? = some (.deferred (some [])) → Q .normal { a with defers := { target := .collected D, args := #[] } :: a.defers } W)
    (hstop : ∀ (D : Nat) (c : Code) (pre : List α) (W : World), w.heap.size ≤ D → pre <+: xs → Ix c pre W → W.heap[D]? = some (.deferred (some [])) → c.wpIn Fence.wide 3 P Q { a with defers := { target := .collected D, args := #[] } :: a.defers } W) :
    (Code.rangeFunc g ps assign body).wpIn Fence.wide 3 P Q a w := by
  refine wpIn_rangeFunc ?_
  intro fn hfn
  have hro : Fence.wide.round = none := rfl
  rw [hro]
  obtain ⟨rec, hrec⟩ : ∃ rec : LoopState → Option Code → Loop, rec = fun st pe => { state := st, pending := pe, fn, tmps := a.tmps, params := ps, assign, body, defers := w.heap.size } := ⟨_, rfl⟩
  obtain ⟨W1, hW1⟩ : ∃ W1, (w.alloc (.deferred (some []))).alloc (.loop (rec .ready none)) = W1 := ⟨_, rfl⟩
  have hL1 : W1.heap[w.heap.size + 1]? = some (.loop (rec .ready none)) := by
    rw [← hW1]; have := World.alloc_heap_new (w.alloc (.deferred (some []))) (.loop (rec .ready none)); rwa [World.size_alloc] at this
  have hK1 : W1.heap[w.heap.size]? = some (.deferred (some [])) := by
    rw [← hW1]; exact (Below.heap_alloc _ _ _ (by simp)).trans (World.alloc_heap_new w _)
  have hI1 : I [] W1 := by rw [← hW1]; exact hI.new _ (hI.new _ h0)
  have hKp1 : Kp w W1 := by rw [← hW1]; exact hKa _ _
  have hsz1 : W1.heap.size = w.heap.size + 2 := by rw [← hW1]; simp
  refine ⟨w.heap.size + 1, [{ target := .collected w.heap.size, args := #[] }], W1, { target := .fn (.func gf) lb, args := #[.func (.yield (w.heap.size + 1)) #[] #[]] }, W1, gf,
    #[.func (.yield (w.heap.size + 1)) #[] #[]] ++ lb, W1, ?_, ?_, ?_, ?_, (fun _ => by omega), ?_⟩
  · rw [← hW1, hrec]; exact run_enterLoop_outer _ _ _ _ _
  · simp only [resolve, hg]
    simp [go_sem]
  · intro f' _; trivial
  · simp [invoke, go_sem, eg]
  · -- THE BOOK-KEEPING: no step of the iterator's turns the record or the block for deferred calls
    have hne : ∀ {A : World} {row : Option Nat} {k : Nat} {o : Obj}, (∀ r, row = some r → Pv r ∨ (W1.heap.size ≤ r ∧ ∃ o : Obj, A.heap[r]? = some o ∧ o.isWalk = true)) → w.heap.size ≤ k → k < W1.heap.size → A.heap[k]? = some o → some k ≠ row := by
      intro A row k o hr hk1 hk2 _ e
      rcases hr k e.symm with h | ⟨h, _⟩
      · have := hPv k h; omega
      · omega
    have hcells : ∀ {A : World} {row : Option Nat}, (∀ r, row = some r → Pv r ∨ (W1.heap.size ≤ r ∧ ∃ o : Obj, A.heap[r]? = some o ∧ o.isWalk = true)) → (∀ r, row = some r → Pv r ∨ (w.heap.size ≤ r ∧ ∃ o : Obj, A.heap[r]? = some o ∧ o.isCells = false)) := by
      intro A row hr r e
      rcases hr r e with h | ⟨h, o, ho, hw⟩
      · exact .inl h
      · exact .inr ⟨by omega, o, ho, Obj.not_cells_of_walk hw⟩
    have hkeep : ∀ {A B : World} {row : Option Nat} {k : Nat} {o : Obj}, A.grownBy B row → some k ≠ row → A.heap[k]? = some o → B.heap[k]? = some o := by
      intro A B row k o hgr hn hk
      exact (hgr.block k (Array.getElem?_eq_some_iff.1 hk).1 hn).trans hk
    refine callsIn_wide.2 ((hseq (w.heap.size + 1)
      (fun pre W => I pre W ∧ W.heap[w.heap.size + 1]? = some (.loop (rec .ready none)) ∧ W.heap[w.heap.size]? = some (.deferred (some [])))
      (fun pre W => ∃ c, Ix c pre W ∧ W.heap[w.heap.size + 1]? = some (.loop (rec .done (some c))) ∧ W.heap[w.heap.size]? = some (.deferred (some [])))
      W1 hKp1 (by omega)
      (fun s A B row hs hg' hr => ⟨hI s A B row hs.1 hg' (hcells hr), hkeep hg' (hne hr (by omega) (by omega) hs.2.1) hs.2.1, hkeep hg' (hne hr (by omega) (by omega) hs.2.2) hs.2.2⟩)
      (fun s A B row hs hg' hr => by
        obtain ⟨c, hc, hl, hk⟩ := hs
        exact ⟨c, hIx c s A B row hc hg' (hcells hr), hkeep hg' (hne hr (by omega) (by omega) hl) hl, hkeep hg' (hne hr (by omega) (by omega) hk) hk⟩)
      ?_ ⟨hI1, hL1, hK1⟩).mono ?_)
    · -- ONE ROUND
      rintro pre x W ⟨hi, hl, hk⟩ hpx
      have hy := run_yield (P := P) (args := encs x) hl (by rw [hrec]; exact hps x)
      rw [hrec] at hy
      refine ⟨fn, _, assign, body, hy, roundIn_of_wpIn hfn (hassign _ pre x W _ hi ?_)⟩
      clear hy
      intro a' Wa hkfa hkpa hia hax
      have hla := hkfa.same _ _ (by omega) hl rfl
      have hka := hkfa.same _ _ (Nat.le_refl _) hk rfl
      have hlta : w.heap.size + 1 < Wa.heap.size := (Array.getElem?_eq_some_iff.1 hla).1
      refine ⟨_, run_beginRound hla (by rw [hrec]), ?_⟩
      have hl2 : (Wa.putObj (w.heap.size + 1) (.loop { rec .ready none with state := .busy })).heap[w.heap.size + 1]? = some (.loop { rec .ready none with state := .busy }) := World.putObj_heap_same hlta
      have hk2 : (Wa.putObj (w.heap.size + 1) (.loop { rec .ready none with state := .busy })).heap[w.heap.size]? = some (.deferred (some [])) := (World.putObj_heap_other (by omega)).trans hka
      have hw2 : Kp Wa (Wa.putObj (w.heap.size + 1) (.loop { rec .ready none with state := .busy })) := hKb _ _ _ (by omega)
      refine wpIn_mono (hbody _ pre x a' _ (by omega) ⟨_, hl2⟩ (hI.put _ hia (by omega) hla rfl) ((hAx x a').put (s := ()) _ hax (by omega) hla rfl) hpx) ?_
      have fin : ∀ (jump : Option Code) (W3 : World), KeepsFrom w.heap.size (Wa.putObj (w.heap.size + 1) (.loop { rec .ready none with state := .busy })) W3 →
          (Instr.endRound (w.heap.size + 1) jump).run P W3 = .ok (.bool jump.isNone) (W3.putObj (w.heap.size + 1) (.loop (rec (if jump.isNone then .ready else .done) jump))) ∧
          W3.heap[w.heap.size + 1]? = some (.loop { rec .ready none with state := .busy }) ∧
          (W3.putObj (w.heap.size + 1) (.loop (rec (if jump.isNone then .ready else .done) jump))).heap[w.heap.size + 1]? = some (.loop (rec (if jump.isNone then .ready else .done) jump)) ∧
          (W3.putObj (w.heap.size + 1) (.loop (rec (if jump.isNone then .ready else .done) jump))).heap[w.heap.size]? = some (.deferred (some [])) := fun jump W3 hk3 => by
        have hl3 := hk3.same _ _ (by omega) hl2 rfl
        have := run_endRound (P := P) jump hl3
        rw [hrec] at this ⊢
        exact ⟨this, by rw [hrec] at hl3; exact hl3, World.putObj_heap_same (Array.getElem?_eq_some_iff.1 hl3).1, (World.putObj_heap_other (by omega)).trans (hk3.same _ _ (Nat.le_refl _) hk2 rfl)⟩
      rintro e a3 W3 hp
      cases e with
      | normal =>
        obtain ⟨hk3, hkp3, hi3⟩ := hp
        obtain ⟨hr, hl3, hl4, hk4⟩ := fin none W3 hk3
        exact ⟨_, _, hr, .inl ⟨rfl, ⟨hI.put _ hi3 (by omega) hl3 rfl, hl4, hk4⟩, hKt hkpa (hKt (hKt hw2 hkp3) (hKb _ _ _ (by omega)))⟩⟩
      | ret =>
        obtain ⟨hk3, hi3⟩ := hp
        obtain ⟨hr, hl3, hl4, hk4⟩ := fin (some .ret) W3 hk3
        exact ⟨_, _, hr, .inr ⟨rfl, .ret, (hIx _).put _ hi3 (by omega) hl3 rfl, hl4, hk4⟩⟩
      | exit id =>
        obtain ⟨hk3, hi3⟩ := hp
        obtain ⟨hr, hl3, hl4, hk4⟩ := fin (some (.exit id)) W3 hk3
        exact ⟨_, _, hr, .inr ⟨rfl, .exit id, (hIx _).put _ hi3 (by omega) hl3 rfl, hl4, hk4⟩⟩
      | goto t =>
        obtain ⟨hk3, hi3⟩ := hp
        obtain ⟨hr, hl3, hl4, hk4⟩ := fin (some (.goto t)) W3 hk3
        exact ⟨_, _, hr, .inr ⟨rfl, .goto t, (hIx _).put _ hi3 (by omega) hl3 rfl, hl4, hk4⟩⟩
      | panic ch => exact hp.elim
      | outgrown => exact hp.elim
    · -- BEHIND THE ITERATOR
      rintro e W2 ⟨⟨v, rfl⟩, (⟨hi, hl, hk⟩ | ⟨pre, hpre, c, hi, hl, hk⟩)⟩
      · exact ⟨none, _, by have := run_endLoop (P := P) hl (by rw [hrec]; simp); rw [hrec] at this; exact this, hdone _ _ (Nat.le_refl _) (hI.put _ hi (by omega) hl rfl) ((World.putObj_heap_other (by omega)).trans hk)⟩
      · exact ⟨some c, _, by have := run_endLoop (P := P) hl (by rw [hrec]; simp); rw [hrec] at this; exact this, hstop _ c pre _ (Nat.le_refl _) hpre ((hIx c).put _ hi (by omega) hl rfl) ((World.putObj_heap_other (by omega)).trans hk)⟩
end
end Go.Proofs.YtkejdbidomlonaaGreatDoor

namespace Go.Proofs.YtkejdbidomlonaaGreatDoor
open Go.RowKit

/-- What an iterator's or the book-keeping's step may turn. -/
def Turns (Pv : Nat → Prop) (N : Nat) (A : World) (row : Option Nat) : Prop := ∀ r, row = some r → Pv r ∨ (N ≤ r ∧ ∃ o : Obj, A.heap[r]? = some o ∧ o.isCells = false)

theorem boxed_turn {Pv : Nat → Prop} {N : Nat} {A B : World} {row : Option Nat} {k t : Nat} {v : Value} (h : Boxed A k t v) (hg : A.grownBy B row) (hr : Turns Pv N A row) (hk : ¬ Pv k) : Boxed B k t v := by
  refine h.kept hg (fun e => ?_)
  rcases hr k e.symm with h1 | ⟨_, o, ho, hc⟩
  · exact hk h1
  · rw [show A.heap[k]? = _ from h] at ho; cases ho; cases hc

theorem row_turn {Pv : Nat → Prop} {N : Nat} {A B : World} {row : Option Nat} {base e size n : Nat} {v : Value} {xs : List Value} (h : A.ownsRow base e size v n xs) (hg : A.grownBy B row) (hr : Turns Pv N A row) (hk : ∀ r, Pv r → r < base) : B.ownsRow base e size v n xs := by
  refine h.kept hg ?_
  rcases h.2 with ⟨rfl, _⟩ | ⟨g, cap, cur, rfl, hbg, hgb, _⟩
  · exact .inl rfl
  · refine .inr fun e' => ?_
    rcases hr g (by simpa [Value.ownBlock] using e'.symm) with h1 | ⟨_, o, ho, hc⟩
    · have := hk g h1; omega
    · rw [hgb] at ho; cases ho; cases hc

theorem below_turn {Pv : Nat → Prop} {N : Nat} {A B W : World} {row : Option Nat} {n₀ : Nat} (h : Below n₀ W A) (hg : A.grownBy B row) (hr : Turns Pv N A row) (hk : ∀ r, Pv r → n₀ ≤ r) (hN : n₀ ≤ N) (hA : n₀ ≤ A.heap.size) : Below n₀ W B :=
  h.grown hg hA (fun r e => by rcases hr r e with h1 | ⟨h1, _⟩; · exact hk r h1
                               · omega)

theorem size_setCell (w : World) (a : Addr) (v : Value) : (w.setCell a v).heap.size = w.heap.size := by
  show (w.heap.modify _ _).size = _
  rw [Array.size_modify]

end Go.Proofs.YtkejdbidomlonaaGreatDoor
