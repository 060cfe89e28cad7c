/- The program's put of a node's object. A law for a range over a function whose iterator keeps state of its own in cells: the iterator may turn the blocks Pv, and asks that a round keep what Kp says. -/
import Derived.Test.YtbmdoekfbkpaeaaGreatDoorJMapS
import Derived.Test.YtbmdoekfbkpaeaaGreatDoorPWr11b
import Derived.Test.YtbmdoekfbkpaeaaGreatDoorJWithP
import Derived.Test.YtbmdoekfbkpaeaaGreatDoorJPWr11
import Derived.RangeFuncNested
import Derived.RangeFuncBound
import Derived.RangeFuncCalls
import Derived.RangeFuncLeaves
import Derived.Shelf.Abstract
import Derived.Shelf.RegionOpen
import Derived.WalkKit
import Derived.OwnWalkIn
import Derived.TacticsInMore
import Derived.LoopNIn
import Derived.LoopIn
import Derived.Test.YtbmdoekfbkpaeaaGreatDoorJBase
namespace Go.Proofs.YtbmdoekfbkpaeaaGreatDoor
open Go.RowKit

theorem insR_perm (l : List Snp) (x : Snp) : (insR l x).Perm (l ++ [x]) := by
  unfold insR
  refine (List.perm_middle).trans ?_
  rw [List.takeWhile_append_dropWhile]
  exact (List.perm_append_singleton x l).symm
/-- A block that alone turns. -/
theorem gro_next {g : Nat} {w w1 w2 : World} (h : Gro g w w1) (k : w1.grownBy w2 (some g)) : Gro g w w2 := World.grownBy.trans h k

set_option maxHeartbeats 4000000 in
set_option maxRecDepth 100000 in
theorem pput12_walk (mb : Nat) (vp ve : Value) (o : List Snp) (n : Nod) (w : World) (hm : SMap w mb o) (hr : NodRow w n vp ve) (hfn : FitN n) (hd : n.data.length ≤ 1100000) (hp : n.parts.length ≤ 1100000) (he : n.ents.length ≤ 1100000) (hnl : ∀ e ∈ n.ents, e.1.length ≤ 1100000) :
    Calls Tryz.prog 45 #[.map (some mb), NodV n vp ve] w fun e w' => e = .returned (S (keyN n)) ∧ SMap w' mb (putN o n) ∧ Gro mb w w' := by
  obtain ⟨pa, pc, rfl⟩ := row_slice hr.parts
  obtain ⟨ua, uc, rfl⟩ := row_slice hr.ents
  obtain ⟨w1, hw1, hB1, hz⟩ : ∃ w1, w1 = w.alloc (.cells #[.int .i64 n.kind, S n.data, .slice pa n.parts.length pc, .slice ua n.ents.length uc] 40) ∧ Below w.heap.size w w1 ∧ w1.heap[w.heap.size]? = some (.cells #[.int .i64 n.kind, S n.data, .slice pa n.parts.length pc, .slice ua n.ents.length uc] 40 (0, 0)) :=
    ⟨_, rfl, (Below.refl _ _).alloc (Nat.le_refl _) _, heap_alloc_new _ _⟩
  have CK := pkey11_walk (.slice pa n.parts.length pc) (.slice ua n.ents.length uc) n w1 (hr.below hB1) hd hp he hnl
  have CW := fun W h => pwrite11_walk (.slice pa n.parts.length pc) (.slice ua n.ents.length uc) n W h hd hp he hnl
  have HR1 := Lib.hid (hr.below hB1)
  have HM := Lib.hid hm
  have HZ := Lib.hid hz
  have H32 := Lib.hid (keyN_len hfn)
  have HPU := Lib.hid (show putN o n = addO o (keyN n, writeN n) from rfl)
  generalize putN o n = o' at *
  generalize keyN n = kk at *
  generalize writeN n = wn at *
  obtain ⟨⟨z0, z1, z2, z3⟩, -, -⟩ := box4 hz
  clear hr hm hz hfn
  go_enter Tryz.func45, Tryz.ntmps45
  go_upto_region 1 with fail
  rw [← hw1]
  clear hw1
  go_wp2_with fail
  refine CK.mono ?_
  rintro e w2 ⟨rfl, hb2⟩
  have HB2 := Lib.hid (below_chain hB1 hb2 hB1.size)
  have CW2 := CW w2 (HR1.out.below hb2)
  obtain ⟨⟨y0, y1, y2, y3⟩, -, -⟩ := box4 ((hb2.block _ (heap_lt HZ.out)).trans HZ.out)
  have hm2 := HM.out.kept HB2.out
  have hlook := hm2.look kk
  have HM2 := Lib.hid hm2
  clear CK CW z0 z1 z2 z3 hb2 hm2
  cases hf : findR o kk with
  | some r =>
    have HE := Lib.hid (show o' = o by rw [HPU.out]; unfold addO; rw [if_pos (.inl (by rw [hf]; rfl))])
    rw [hf] at hlook
    simp only [Option.isSome_some] at hlook
    generalize rootOf (some r) = rr at *
    clear hf
    go_wp2
    go_ret
    exact ⟨rfl, by rw [HE.out]; exact HM2.out, gro_of (HB2.out.mono (Nat.le_refl _))⟩
  | none =>
    have HE := Lib.hid (show o' = insR o (kk, wn) by
      rw [HPU.out]; unfold addO
      rw [if_neg (fun h => h.elim (fun h => by rw [hf] at h; cases h) (fun h => h H32.out))])
    have HF := Lib.hid hf
    rw [hf] at hlook
    simp only [Option.isSome_none] at hlook
    generalize rootOf none = rr at *
    clear hf
    go_wp2_with fail
    refine CW2.mono ?_
    rintro e w3 ⟨rfl, hb3⟩
    have HB3 := Lib.hid (below_chain HB2.out hb3 HB2.out.size)
    have HM3 := Lib.hid (HM2.out.kept hb3)
    clear CW2 hlook y0 y1 y2 y3 hb3
    go_wp2_with (at_mapUpdate; refine wpList_smap_update rfl _ rfl _ _ _ (by first | exact .inl rfl | exact .inr rfl) HM3.out kk wn HF.out (insR_perm _ _) rfl rfl rfl ?_)
    intro w4 hm4 hg4
    have HM4 := Lib.hid hm4
    have HG4 := Lib.hid (gro_next (gro_of (g := mb) HB3.out) hg4)
    clear hm4 hg4
    go_wp2
    go_ret
    exact ⟨rfl, by rw [HE.out]; exact HM4.out, HG4.out⟩
end Go.Proofs.YtbmdoekfbkpaeaaGreatDoor

namespace Go.Proofs.YtbmdoekfbkpaeaaGreatDoor
open Go.RowKit

/-- What an iterator may turn between two rounds: its own blocks; a walk's object that was laid since. -/
def Stays {β : Type} (Pv : Nat → Prop) (N : Nat) (J : β → World → Prop) : Prop :=
  ∀ s A B row, J s A → A.grownBy B row → (∀ r, row = some r → Pv r ∨ (N ≤ r ∧ ∃ o : Obj, A.heap[r]? = some o ∧ o.isWalk = true)) → J s B

/-- What a caller's invariant must bear: a turn of the iterator's own blocks, and of a block from N on that holds no cells. -/
def Bides {β : Type} (Pv : Nat → Prop) (N : Nat) (J : β → World → Prop) : Prop :=
  ∀ s A B row, J s A → A.grownBy B row → (∀ r, row = some r → Pv r ∨ (N ≤ r ∧ ∃ o : Obj, A.heap[r]? = some o ∧ o.isCells = false)) → J s B

/-- The contract of an iterator that hands out xs, one by one, till a round says no. -/
def IterOf {α : Type} (P : Program) (g : Nat) (lb : Array Value) (Pv : Nat → Prop) (Kp : World → World → Prop) (encs : α → Array Value) (xs : List α) (w : World) : Prop :=
  ∀ (l : Nat) (J Jx : List α → World → Prop) (W : World), Kp w W → w.heap.size ≤ W.heap.size → Stays Pv W.heap.size J → Stays Pv W.heap.size Jx →
    (∀ pre x W1, J pre W1 → pre ++ [x] <+: xs → YieldAt Fence.wide 2 P l (encs x) W1 fun e W' =>
      (e = .returned (.bool true) ∧ J (pre ++ [x]) W' ∧ Kp W1 W') ∨ (e = .returned (.bool false) ∧ Jx (pre ++ [x]) W')) →
    J [] W →
    Calls P g (#[.func (.yield l) #[] #[]] ++ lb) W fun e W' => (∃ v, e = .returned v) ∧ (J xs W' ∨ ∃ pre, pre <+: xs ∧ Jx pre W')

theorem Bides.put {β : Type} {Pv : Nat → Prop} {N : Nat} {J : β → World → Prop} (h : Bides Pv N J) {s : β} {W : World} {l : Nat} {o : Obj} (o' : Obj) (hs : J s W) (hN : N ≤ l) (hl : W.heap[l]? = some o) (ho : o.isCells = false) : J s (W.putObj l o') :=
  h s W _ (some l) hs (grownBy_putObj' W l o') (fun r e => by cases e; exact .inr ⟨hN, o, hl, ho⟩)
theorem Bides.new {β : Type} {Pv : Nat → Prop} {N : Nat} {J : β → World → Prop} (h : Bides Pv N J) {s : β} {W : World} (o : Obj) (hs : J s W) : J s (W.alloc o) :=
  h s W _ none hs (World.grownBy_alloc W o none) (fun r e => by cases e)
theorem Bides.and {β : Type} {Pv : Nat → Prop} {N : Nat} {J J' : β → World → Prop} (h : Bides Pv N J) (h' : Bides Pv N J') : Bides Pv N (fun s W => J s W ∧ J' s W) :=
  fun s A B row hs hg hr => ⟨h s A B row hs.1 hg hr, h' s A B row hs.2 hg hr⟩

section
variable {P : Program}

/-- The law, at a loop that stands in no other loop's round. -/
theorem range_law {α : Type} {g : Operand} {ps : Array Tmp} {assign body : Code} {Q : Exit → Act → World → Prop} {a : Act} {w : World}
    {gf : Nat} {lb : Array Value} (hg : a.eval g = .func (.func gf) #[] lb) (eg : ∀ args w, (callFunc gf args).run P w = .ok (.enter gf args) w)
    {Pv : Nat → Prop} {Kp : World → World → Prop} {encs : α → Array Value} {xs : List α} (hseq : IterOf P gf lb Pv Kp encs xs w) (hPv : ∀ r, Pv r → r < w.heap.size)
    (hKt : ∀ {A B C : World}, Kp A B → Kp B C → Kp A C) (hKb : ∀ (W : World) (l : Nat) (o : Obj), w.heap.size ≤ l → Kp W (W.putObj l o)) (hKa : ∀ o o', Kp w ((w.alloc o).alloc o')) (hps : ∀ x, (encs x).size = ps.size)
    (I : List α → World → Prop) (Ix : Code → List α → World → Prop) (hI : Bides Pv w.heap.size I) (hIx : ∀ c, Bides Pv w.heap.size (Ix c)) (h0 : I [] w)
    (Ax : α → Act → World → Prop) (hAx : ∀ x a', Bides Pv w.heap.size (fun (_ : Unit) W => Ax x a' W))
    (hassign : ∀ (l : Nat) (pre : List α) (x : α) (W : World) (K : Act → World → Prop), I pre W → (∀ a' W', KeepsFrom w.heap.size W W' → Kp W W' → I pre W' → Ax x a' W' → K a' W') →
      assign.wpIn (Fence.wide.inRound l) 2 P (Exit.then K (fun _ _ _ => False)) { tmps := (ps.zip (encs x)).foldl (fun t (p, v) => t.setIfInBounds p v) a.tmps, defers := [] } W)
    (hbody : ∀ (l : Nat) (pre : List α) (x : α) (a' : Act) (W : World), w.heap.size ≤ l → (∃ r, W.heap[l]? = some (.loop r)) → I pre W → Ax x a' W → pre ++ [x] <+: xs →
      body.wpIn (Fence.wide.inRound l) 2 P (ownPostG w.heap.size Kp I Ix (pre ++ [x]) W) a' W)
    (hdone : ∀ (D : Nat) (W : World), w.heap.size ≤ D → I xs W → W.heap[D]? = some (.deferred (some [])) → Q .normal { a with defers := { target := .collected D, args := #[] } :: a.defers } W)
    (hstop : ∀ (D : Nat) (c : Code) (pre : List α) (W : World), w.heap.size ≤ D → pre <+: xs → Ix c pre W → W.heap[D]? = some (.deferred (some [])) → c.wpIn Fence.wide 3 P Q { a with defers := { target := .collected D, args := #[] } :: a.defers } W) :
    (Code.rangeFunc g ps assign body).wpIn Fence.wide 3 P Q a w := by
  refine wpIn_rangeFunc ?_
  intro fn hfn
  have hro : Fence.wide.round = none := rfl
  rw [hro]
  obtain ⟨rec, hrec⟩ : ∃ rec : LoopState → Option Code → Loop, rec = fun st pe => { state := st, pending := pe, fn, tmps := a.tmps, params := ps, assign, body, defers := w.heap.size } := ⟨_, rfl⟩
  obtain ⟨W1, hW1⟩ : ∃ W1, (w.alloc (.deferred (some []))).alloc (.loop (rec .ready none)) = W1 := ⟨_, rfl⟩
  have hL1 : W1.heap[w.heap.size + 1]? = some (.loop (rec .ready none)) := by
    rw [← hW1]; have := World.alloc_heap_new (w.alloc (.deferred (some []))) (.loop (rec .ready none)); rwa [World.size_alloc] at this
  have hK1 : W1.heap[w.heap.size]? = some (.deferred (some [])) := by
    rw [← hW1]; exact (Below.heap_alloc _ _ _ (by simp)).trans (World.alloc_heap_new w _)
  have hI1 : I [] W1 := by rw [← hW1]; exact hI.new _ (hI.new _ h0)
  have hKp1 : Kp w W1 := by rw [← hW1]; exact hKa _ _
  have hsz1 : W1.heap.size = w.heap.size + 2 := by rw [← hW1]; simp
  refine ⟨w.heap.size + 1, [{ target := .collected w.heap.size, args := #[] }], W1, { target := .fn (.func gf) lb, args := #[.func (.yield (w.heap.size + 1)) #[] #[]] }, W1, gf,
    #[.func (.yield (w.heap.size + 1)) #[] #[]] ++ lb, W1, ?_, ?_, ?_, ?_, (fun _ => by omega), ?_⟩
  · rw [← hW1, hrec]; exact run_enterLoop_outer _ _ _ _ _
  · simp only [resolve, hg]
    simp [go_sem]
  · intro f' _; trivial
  · simp [invoke, go_sem, eg]
  · -- THE BOOK-KEEPING: no step of the iterator's turns the record or the block for deferred calls
    have hne : ∀ {A : World} {row : Option Nat} {k : Nat} {o : Obj}, (∀ r, row = some r → Pv r ∨ (W1.heap.size ≤ r ∧ ∃ o : Obj, A.heap[r]? = some o ∧ o.isWalk = true)) → w.heap.size ≤ k → k < W1.heap.size → A.heap[k]? = some o → some k ≠ row := by
      intro A row k o hr hk1 hk2 _ e
      rcases hr k e.symm with h | ⟨h, _⟩
      · have := hPv k h; omega
      · omega
    have hcells : ∀ {A : World} {row : Option Nat}, (∀ r, row = some r → Pv r ∨ (W1.heap.size ≤ r ∧ ∃ o : Obj, A.heap[r]? = some o ∧ o.isWalk = true)) → (∀ r, row = some r → Pv r ∨ (w.heap.size ≤ r ∧ ∃ o : Obj, A.heap[r]? = some o ∧ o.isCells = false)) := by
      intro A row hr r e
      rcases hr r e with h | ⟨h, o, ho, hw⟩
      · exact .inl h
      · exact .inr ⟨by omega, o, ho, Obj.not_cells_of_walk hw⟩
    have hkeep : ∀ {A B : World} {row : Option Nat} {k : Nat} {o : Obj}, A.grownBy B row → some k ≠ row → A.heap[k]? = some o → B.heap[k]? = some o := by
      intro A B row k o hgr hn hk
      exact (hgr.block k (Array.getElem?_eq_some_iff.1 hk).1 hn).trans hk
    refine callsIn_wide.2 ((hseq (w.heap.size + 1)
      (fun pre W => I pre W ∧ W.heap[w.heap.size + 1]? = some (.loop (rec .ready none)) ∧ W.heap[w.heap.size]? = some (.deferred (some [])))
      (fun pre W => ∃ c, Ix c pre W ∧ W.heap[w.heap.size + 1]? = some (.loop (rec .done (some c))) ∧ W.heap[w.heap.size]? = some (.deferred (some [])))
      W1 hKp1 (by omega)
      (fun s A B row hs hg' hr => ⟨hI s A B row hs.1 hg' (hcells hr), hkeep hg' (hne hr (by omega) (by omega) hs.2.1) hs.2.1, hkeep hg' (hne hr (by omega) (by omega) hs.2.2) hs.2.2⟩)
      (fun s A B row hs hg' hr => by
        obtain ⟨c, hc, hl, hk⟩ := hs
        exact ⟨c, hIx c s A B row hc hg' (hcells hr), hkeep hg' (hne hr (by omega) (by omega) hl) hl, hkeep hg' (hne hr (by omega) (by omega) hk) hk⟩)
      ?_ ⟨hI1, hL1, hK1⟩).mono ?_)
    · -- ONE ROUND
      rintro pre x W ⟨hi, hl, hk⟩ hpx
      have hy := run_yield (P := P) (args := encs x) hl (by rw [hrec]; exact hps x)
      rw [hrec] at hy
      refine ⟨fn, _, assign, body, hy, roundIn_of_wpIn hfn (hassign _ pre x W _ hi ?_)⟩
      clear hy
      intro a' Wa hkfa hkpa hia hax
      have hla := hkfa.same _ _ (by omega) hl rfl
      have hka := hkfa.same _ _ (Nat.le_refl _) hk rfl
      have hlta : w.heap.size + 1 < Wa.heap.size := (Array.getElem?_eq_some_iff.1 hla).1
      refine ⟨_, run_beginRound hla (by rw [hrec]), ?_⟩
      have hl2 : (Wa.putObj (w.heap.size + 1) (.loop { rec .ready none with state := .busy })).heap[w.heap.size + 1]? = some (.loop { rec .ready none with state := .busy }) := World.putObj_heap_same hlta
      have hk2 : (Wa.putObj (w.heap.size + 1) (.loop { rec .ready none with state := .busy })).heap[w.heap.size]? = some (.deferred (some [])) := (World.putObj_heap_other (by omega)).trans hka
      have hw2 : Kp Wa (Wa.putObj (w.heap.size + 1) (.loop { rec .ready none with state := .busy })) := hKb _ _ _ (by omega)
      refine wpIn_mono (hbody _ pre x a' _ (by omega) ⟨_, hl2⟩ (hI.put _ hia (by omega) hla rfl) ((hAx x a').put (s := ()) _ hax (by omega) hla rfl) hpx) ?_
      have fin : ∀ (jump : Option Code) (W3 : World), KeepsFrom w.heap.size (Wa.putObj (w.heap.size + 1) (.loop { rec .ready none with state := .busy })) W3 →
          (Instr.endRound (w.heap.size + 1) jump).run P W3 = .ok (.bool jump.isNone) (W3.putObj (w.heap.size + 1) (.loop (rec (if jump.isNone then .ready else .done) jump))) ∧
          W3.heap[w.heap.size + 1]? = some (.loop { rec .ready none with state := .busy }) ∧
          (W3.putObj (w.heap.size + 1) (.loop (rec (if jump.isNone then .ready else .done) jump))).heap[w.heap.size + 1]? = some (.loop (rec (if jump.isNone then .ready else .done) jump)) ∧
          (W3.putObj (w.heap.size + 1) (.loop (rec (if jump.isNone then .ready else .done) jump))).heap[w.heap.size]? = some (.deferred (some [])) := fun jump W3 hk3 => by
        have hl3 := hk3.same _ _ (by omega) hl2 rfl
        have := run_endRound (P := P) jump hl3
        rw [hrec] at this ⊢
        exact ⟨this, by rw [hrec] at hl3; exact hl3, World.putObj_heap_same (Array.getElem?_eq_some_iff.1 hl3).1, (World.putObj_heap_other (by omega)).trans (hk3.same _ _ (Nat.le_refl _) hk2 rfl)⟩
      rintro e a3 W3 hp
      cases e with
      | normal =>
        obtain ⟨hk3, hkp3, hi3⟩ := hp
        obtain ⟨hr, hl3, hl4, hk4⟩ := fin none W3 hk3
        exact ⟨_, _, hr, .inl ⟨rfl, ⟨hI.put _ hi3 (by omega) hl3 rfl, hl4, hk4⟩, hKt hkpa (hKt (hKt hw2 hkp3) (hKb _ _ _ (by omega)))⟩⟩
      | ret =>
        obtain ⟨hk3, hi3⟩ := hp
        obtain ⟨hr, hl3, hl4, hk4⟩ := fin (some .ret) W3 hk3
        exact ⟨_, _, hr, .inr ⟨rfl, .ret, (hIx _).put _ hi3 (by omega) hl3 rfl, hl4, hk4⟩⟩
      | exit id =>
        obtain ⟨hk3, hi3⟩ := hp
        obtain ⟨hr, hl3, hl4, hk4⟩ := fin (some (.exit id)) W3 hk3
        exact ⟨_, _, hr, .inr ⟨rfl, .exit id, (hIx _).put _ hi3 (by omega) hl3 rfl, hl4, hk4⟩⟩
      | goto t =>
        obtain ⟨hk3, hi3⟩ := hp
        obtain ⟨hr, hl3, hl4, hk4⟩ := fin (some (.goto t)) W3 hk3
        exact ⟨_, _, hr, .inr ⟨rfl, .goto t, (hIx _).put _ hi3 (by omega) hl3 rfl, hl4, hk4⟩⟩
      | panic ch => exact hp.elim
      | outgrown => exact hp.elim
    · -- BEHIND THE ITERATOR
      rintro e W2 ⟨⟨v, rfl⟩, (⟨hi, hl, hk⟩ | ⟨pre, hpre, c, hi, hl, hk⟩)⟩
      · exact ⟨none, _, by have := run_endLoop (P := P) hl (by rw [hrec]; simp); rw [hrec] at this; exact this, hdone _ _ (Nat.le_refl _) (hI.put _ hi (by omega) hl rfl) ((World.putObj_heap_other (by omega)).trans hk)⟩
      · exact ⟨some c, _, by have := run_endLoop (P := P) hl (by rw [hrec]; simp); rw [hrec] at this; exact this, hstop _ c pre _ (Nat.le_refl _) hpre ((hIx c).put _ hi (by omega) hl rfl) ((World.putObj_heap_other (by omega)).trans hk)⟩
end
end Go.Proofs.YtbmdoekfbkpaeaaGreatDoor
