/- A law for a range over a function whose iterator lays and turns blocks of its own while the rounds lay and turn theirs: Ow says which block is not the rounds'. Worlds that turn in named blocks alone: what stays. A map from texts to bools that the call makes, in plain words. Rows of elements of several cells in memory. -/
import Derived.Test.YtocommjoncchpaaGreatDoorRange
import Derived.Test.YtocommjoncchpaaGreatDoorJPlain
import Derived.Maps.AppendAt
import Derived.RangeFuncBox
import Derived.Maps.OwnOps
import Derived.Maps.Views
import Derived.StringKeys
import Derived.Laws.BytesArg
import Derived.Lib.UnsafeStr
namespace Go.Proofs.YtocommjoncchpaaGreatDoor
open Go.RowKit

/-- What an iterator may turn between two rounds: blocks from N on that are not the rounds'. -/
def Stays2 {β : Type} (Ow : World → Nat → Prop) (N : Nat) (J : β → World → Prop) : Prop :=
  ∀ s A B row, J s A → A.grownBy B row → (∀ r, row = some r → N ≤ r ∧ Ow A r) → J s B
/-- What a caller's invariant must bear. -/
def Bides2 {β : Type} (Ow : World → Nat → Prop) (N : Nat) (J : β → World → Prop) : Prop :=
  ∀ s A B row, J s A → A.grownBy B row → (∀ r, row = some r → N ≤ r ∧ (Ow A r ∨ ∃ o : Obj, A.heap[r]? = some o ∧ o.isCells = false)) → J s B
/-- The contract of an iterator that hands out xs, one by one, till a round says no. -/
def IterOf2 {α : Type} (P : Program) (g : Nat) (lb : Array Value) (Ow : World → Nat → Prop) (Kp : World → World → Prop) (encs : α → Array Value) (xs : List α) (w : World) : Prop :=
  ∀ (l : Nat) (J Jx : List α → World → Prop) (W : World), Kp w W → w.heap.size + 2 ≤ W.heap.size → Stays2 Ow W.heap.size J → Stays2 Ow W.heap.size Jx →
    (∀ pre x W1, J pre W1 → pre ++ [x] <+: xs → YieldAt Fence.wide 2 P l (encs x) W1 fun e W' =>
      (e = .returned (.bool true) ∧ J (pre ++ [x]) W' ∧ Kp W1 W') ∨ (e = .returned (.bool false) ∧ Jx (pre ++ [x]) W')) →
    J [] W →
    Calls P g (#[.func (.yield l) #[] #[]] ++ lb) W fun e W' => (∃ v, e = .returned v) ∧ (J xs W' ∨ ∃ pre, pre <+: xs ∧ Jx pre W')

theorem Bides2.put {β : Type} {Ow : World → Nat → Prop} {N : Nat} {J : β → World → Prop} (h : Bides2 Ow N J) {s : β} {W : World} {l : Nat} {o : Obj} (o' : Obj) (hs : J s W) (hN : N ≤ l) (hl : W.heap[l]? = some o) (ho : o.isCells = false) : J s (W.putObj l o') :=
  h s W _ (some l) hs (grownBy_putObj' W l o') (fun r e => by cases e; exact ⟨hN, .inr ⟨o, hl, ho⟩⟩)
theorem Bides2.new {β : Type} {Ow : World → Nat → Prop} {N : Nat} {J : β → World → Prop} (h : Bides2 Ow N J) {s : β} {W : World} (o : Obj) (hs : J s W) : J s (W.alloc o) :=
  h s W _ none hs (World.grownBy_alloc W o none) (fun r e => by cases e)

section
variable {P : Program}

/-- The law, at a loop that stands in no other loop's round. -/
theorem range_law2 {α : Type} {g : Operand} {ps : Array Tmp} {assign body : Code} {Q : Exit → Act → World → Prop} {a : Act} {w : World}
    {gf : Nat} {lb : Array Value} (hg : a.eval g = .func (.func gf) #[] lb) (eg : ∀ args w, (callFunc gf args).run P w = .ok (.enter gf args) w)
    {Ow : World → Nat → Prop} {Kp : World → World → Prop} {encs : α → Array Value} {xs : List α} (hseq : IterOf2 P gf lb Ow Kp encs xs w)
    (hKt : ∀ {A B C : World}, Kp A B → Kp B C → Kp A C) (hKb : ∀ (W : World) (o : Obj), Kp W (W.putObj (w.heap.size + 1) o)) (hKa : ∀ o o', Kp w ((w.alloc o).alloc o')) (hps : ∀ x, (encs x).size = ps.size)
    (I : List α → World → Prop) (Ix : Code → List α → World → Prop) (hI : Bides2 Ow w.heap.size I) (hIx : ∀ c, Bides2 Ow w.heap.size (Ix c)) (h0 : I [] w)
    (Ax : α → Act → World → Prop) (hAx : ∀ x a', Bides2 Ow w.heap.size (fun (_ : Unit) W => Ax x a' W))
    (hassign : ∀ (l : Nat) (pre : List α) (x : α) (W : World) (K : Act → World → Prop), I pre W → (∀ a' W', KeepsFrom w.heap.size W W' → Kp W W' → I pre W' → Ax x a' W' → K a' W') →
      assign.wpIn (Fence.wide.inRound l) 2 P (Exit.then K (fun _ _ _ => False)) { tmps := (ps.zip (encs x)).foldl (fun t (p, v) => t.setIfInBounds p v) a.tmps, defers := [] } W)
    (hbody : ∀ (l : Nat) (pre : List α) (x : α) (a' : Act) (W : World), w.heap.size ≤ l → (∃ r, W.heap[l]? = some (.loop r)) → I pre W → Ax x a' W → pre ++ [x] <+: xs →
      body.wpIn (Fence.wide.inRound l) 2 P (ownPostG w.heap.size Kp I Ix (pre ++ [x]) W) a' W)
    (hdone : ∀ (D : Nat) (W : World), w.heap.size ≤ D → I xs W → W.heap[D]? = some (.deferred (some [])) → Q .normal { a with defers := { target := .collected D, args := #[] } :: a.defers } W)
    (hstop : ∀ (D : Nat) (c : Code) (pre : List α) (W : World), w.heap.size ≤ D → pre <+: xs → Ix c pre W → W.heap[D]? = some (.deferred (some [])) → c.wpIn Fence.wide 3 P Q { a with defers := { target := .collected D, args := #[] } :: a.defers } W) :
    (Code.rangeFunc g ps assign body).wpIn Fence.wide 3 P Q a w := by
  refine wpIn_rangeFunc ?_
  intro fn hfn
  have hro : Fence.wide.round = none := rfl
  rw [hro]
  obtain ⟨rec, hrec⟩ : ∃ rec : LoopState → Option Code → Loop, rec = fun st pe => { state := st, pending := pe, fn, tmps := a.tmps, params := ps, assign, body, defers := w.heap.size } := ⟨_, rfl⟩
  obtain ⟨W1, hW1⟩ : ∃ W1, (w.alloc (.deferred (some []))).alloc (.loop (rec .ready none)) = W1 := ⟨_, rfl⟩
  have hL1 : W1.heap[w.heap.size + 1]? = some (.loop (rec .ready none)) := by
    rw [← hW1]; have := World.alloc_heap_new (w.alloc (.deferred (some []))) (.loop (rec .ready none)); rwa [World.size_alloc] at this
  have hK1 : W1.heap[w.heap.size]? = some (.deferred (some [])) := by
    rw [← hW1]; exact (Below.heap_alloc _ _ _ (by simp)).trans (World.alloc_heap_new w _)
  have hI1 : I [] W1 := by rw [← hW1]; exact hI.new _ (hI.new _ h0)
  have hKp1 : Kp w W1 := by rw [← hW1]; exact hKa _ _
  have hsz1 : W1.heap.size = w.heap.size + 2 := by rw [← hW1]; simp
  refine ⟨w.heap.size + 1, [{ target := .collected w.heap.size, args := #[] }], W1, { target := .fn (.func gf) lb, args := #[.func (.yield (w.heap.size + 1)) #[] #[]] }, W1, gf,
    #[.func (.yield (w.heap.size + 1)) #[] #[]] ++ lb, W1, ?_, ?_, ?_, ?_, (fun _ => by omega), ?_⟩
  · rw [← hW1, hrec]; exact run_enterLoop_outer _ _ _ _ _
  · simp only [resolve, hg]
    simp [go_sem]
  · intro f' _; trivial
  · simp [invoke, go_sem, eg]
  · -- THE BOOK-KEEPING: no step of the iterator's turns the record or the block for deferred calls
    have hne : ∀ {A : World} {row : Option Nat} {k : Nat} {o : Obj}, (∀ r, row = some r → W1.heap.size ≤ r ∧ Ow A r) → w.heap.size ≤ k → k < W1.heap.size → A.heap[k]? = some o → some k ≠ row := by
      intro A row k o hr hk1 hk2 _ e
      have := (hr k e.symm).1
      omega
    have hcells : ∀ {A : World} {row : Option Nat}, (∀ r, row = some r → W1.heap.size ≤ r ∧ Ow A r) → (∀ r, row = some r → w.heap.size ≤ r ∧ (Ow A r ∨ ∃ o : Obj, A.heap[r]? = some o ∧ o.isCells = false)) := by
      intro A row hr r e
      exact ⟨by have := (hr r e).1; omega, .inl (hr r e).2⟩
    have hkeep : ∀ {A B : World} {row : Option Nat} {k : Nat} {o : Obj}, A.grownBy B row → some k ≠ row → A.heap[k]? = some o → B.heap[k]? = some o := by
      intro A B row k o hgr hn hk
      exact (hgr.block k (Array.getElem?_eq_some_iff.1 hk).1 hn).trans hk
    refine callsIn_wide.2 ((hseq (w.heap.size + 1)
      (fun pre W => I pre W ∧ W.heap[w.heap.size + 1]? = some (.loop (rec .ready none)) ∧ W.heap[w.heap.size]? = some (.deferred (some [])))
      (fun pre W => ∃ c, Ix c pre W ∧ W.heap[w.heap.size + 1]? = some (.loop (rec .done (some c))) ∧ W.heap[w.heap.size]? = some (.deferred (some [])))
      W1 hKp1 (by omega)
      (fun s A B row hs hg' hr => ⟨hI s A B row hs.1 hg' (hcells hr), hkeep hg' (hne hr (by omega) (by omega) hs.2.1) hs.2.1, hkeep hg' (hne hr (by omega) (by omega) hs.2.2) hs.2.2⟩)
      (fun s A B row hs hg' hr => by
        obtain ⟨c, hc, hl, hk⟩ := hs
        exact ⟨c, hIx c s A B row hc hg' (hcells hr), hkeep hg' (hne hr (by omega) (by omega) hl) hl, hkeep hg' (hne hr (by omega) (by omega) hk) hk⟩)
      ?_ ⟨hI1, hL1, hK1⟩).mono ?_)
    · -- ONE ROUND
      rintro pre x W ⟨hi, hl, hk⟩ hpx
      have hy := run_yield (P := P) (args := encs x) hl (by rw [hrec]; exact hps x)
      rw [hrec] at hy
      refine ⟨fn, _, assign, body, hy, roundIn_of_wpIn hfn (hassign _ pre x W _ hi ?_)⟩
      clear hy
      intro a' Wa hkfa hkpa hia hax
      have hla := hkfa.same _ _ (by omega) hl rfl
      have hka := hkfa.same _ _ (Nat.le_refl _) hk rfl
      have hlta : w.heap.size + 1 < Wa.heap.size := (Array.getElem?_eq_some_iff.1 hla).1
      refine ⟨_, run_beginRound hla (by rw [hrec]), ?_⟩
      have hl2 : (Wa.putObj (w.heap.size + 1) (.loop { rec .ready none with state := .busy })).heap[w.heap.size + 1]? = some (.loop { rec .ready none with state := .busy }) := World.putObj_heap_same hlta
      have hk2 : (Wa.putObj (w.heap.size + 1) (.loop { rec .ready none with state := .busy })).heap[w.heap.size]? = some (.deferred (some [])) := (World.putObj_heap_other (by omega)).trans hka
      have hw2 : Kp Wa (Wa.putObj (w.heap.size + 1) (.loop { rec .ready none with state := .busy })) := hKb _ _
      refine wpIn_mono (hbody _ pre x a' _ (by omega) ⟨_, hl2⟩ (hI.put _ hia (by omega) hla rfl) ((hAx x a').put (s := ()) _ hax (by omega) hla rfl) hpx) ?_
      have fin : ∀ (jump : Option Code) (W3 : World), KeepsFrom w.heap.size (Wa.putObj (w.heap.size + 1) (.loop { rec .ready none with state := .busy })) W3 →
          (Instr.endRound (w.heap.size + 1) jump).run P W3 = .ok (.bool jump.isNone) (W3.putObj (w.heap.size + 1) (.loop (rec (if jump.isNone then .ready else .done) jump))) ∧
          W3.heap[w.heap.size + 1]? = some (.loop { rec .ready none with state := .busy }) ∧
          (W3.putObj (w.heap.size + 1) (.loop (rec (if jump.isNone then .ready else .done) jump))).heap[w.heap.size + 1]? = some (.loop (rec (if jump.isNone then .ready else .done) jump)) ∧
          (W3.putObj (w.heap.size + 1) (.loop (rec (if jump.isNone then .ready else .done) jump))).heap[w.heap.size]? = some (.deferred (some [])) := fun jump W3 hk3 => by
        have hl3 := hk3.same _ _ (by omega) hl2 rfl
        have := run_endRound (P := P) jump hl3
        rw [hrec] at this ⊢
        exact ⟨this, by rw [hrec] at hl3; exact hl3, World.putObj_heap_same (Array.getElem?_eq_some_iff.1 hl3).1, (World.putObj_heap_other (by omega)).trans (hk3.same _ _ (Nat.le_refl _) hk2 rfl)⟩
      rintro e a3 W3 hp
      cases e with
      | normal =>
        obtain ⟨hk3, hkp3, hi3⟩ := hp
        obtain ⟨hr, hl3, hl4, hk4⟩ := fin none W3 hk3
        exact ⟨_, _, hr, .inl ⟨rfl, ⟨hI.put _ hi3 (by omega) hl3 rfl, hl4, hk4⟩, hKt hkpa (hKt (hKt hw2 hkp3) (hKb _ _))⟩⟩
      | ret =>
        obtain ⟨hk3, hi3⟩ := hp
        obtain ⟨hr, hl3, hl4, hk4⟩ := fin (some .ret) W3 hk3
        exact ⟨_, _, hr, .inr ⟨rfl, .ret, (hIx _).put _ hi3 (by omega) hl3 rfl, hl4, hk4⟩⟩
      | exit id =>
        obtain ⟨hk3, hi3⟩ := hp
        obtain ⟨hr, hl3, hl4, hk4⟩ := fin (some (.exit id)) W3 hk3
        exact ⟨_, _, hr, .inr ⟨rfl, .exit id, (hIx _).put _ hi3 (by omega) hl3 rfl, hl4, hk4⟩⟩
      | goto t =>
        obtain ⟨hk3, hi3⟩ := hp
        obtain ⟨hr, hl3, hl4, hk4⟩ := fin (some (.goto t)) W3 hk3
        exact ⟨_, _, hr, .inr ⟨rfl, .goto t, (hIx _).put _ hi3 (by omega) hl3 rfl, hl4, hk4⟩⟩
      | panic ch => exact hp.elim
      | outgrown => exact hp.elim
    · -- BEHIND THE ITERATOR
      rintro e W2 ⟨⟨v, rfl⟩, (⟨hi, hl, hk⟩ | ⟨pre, hpre, c, hi, hl, hk⟩)⟩
      · exact ⟨none, _, by have := run_endLoop (P := P) hl (by rw [hrec]; simp); rw [hrec] at this; exact this, hdone _ _ (Nat.le_refl _) (hI.put _ hi (by omega) hl rfl) ((World.putObj_heap_other (by omega)).trans hk)⟩
      · exact ⟨some c, _, by have := run_endLoop (P := P) hl (by rw [hrec]; simp); rw [hrec] at this; exact this, hstop _ c pre _ (Nat.le_refl _) hpre ((hIx c).put _ hi (by omega) hl rfl) ((World.putObj_heap_other (by omega)).trans hk)⟩
end
end Go.Proofs.YtocommjoncchpaaGreatDoor

namespace Go.Proofs.YtocommjoncchpaaGreatDoor
open Go.RowKit

/-- What an iterator's or the book-keeping's step may turn. -/
def Turns (Pv : Nat → Prop) (N : Nat) (A : World) (row : Option Nat) : Prop := ∀ r, row = some r → Pv r ∨ (N ≤ r ∧ ∃ o : Obj, A.heap[r]? = some o ∧ o.isCells = false)

theorem boxed_turn {Pv : Nat → Prop} {N : Nat} {A B : World} {row : Option Nat} {k t : Nat} {v : Value} (h : Boxed A k t v) (hg : A.grownBy B row) (hr : Turns Pv N A row) (hk : ¬ Pv k) : Boxed B k t v := by
  refine h.kept hg (fun e => ?_)
  rcases hr k e.symm with h1 | ⟨_, o, ho, hc⟩
  · exact hk h1
  · rw [show A.heap[k]? = _ from h] at ho; cases ho; cases hc

theorem row_turn {Pv : Nat → Prop} {N : Nat} {A B : World} {row : Option Nat} {base e size n : Nat} {v : Value} {xs : List Value} (h : A.ownsRow base e size v n xs) (hg : A.grownBy B row) (hr : Turns Pv N A row) (hk : ∀ r, Pv r → r < base) : B.ownsRow base e size v n xs := by
  refine h.kept hg ?_
  rcases h.2 with ⟨rfl, _⟩ | ⟨g, cap, cur, rfl, hbg, hgb, _⟩
  · exact .inl rfl
  · refine .inr fun e' => ?_
    rcases hr g (by simpa [Value.ownBlock] using e'.symm) with h1 | ⟨_, o, ho, hc⟩
    · have := hk g h1; omega
    · rw [hgb] at ho; cases ho; cases hc

theorem below_turn {Pv : Nat → Prop} {N : Nat} {A B W : World} {row : Option Nat} {n₀ : Nat} (h : Below n₀ W A) (hg : A.grownBy B row) (hr : Turns Pv N A row) (hk : ∀ r, Pv r → n₀ ≤ r) (hN : n₀ ≤ N) (hA : n₀ ≤ A.heap.size) : Below n₀ W B :=
  h.grown hg hA (fun r e => by rcases hr r e with h1 | ⟨h1, _⟩; · exact hk r h1
                               · omega)

theorem size_setCell (w : World) (a : Addr) (v : Value) : (w.setCell a v).heap.size = w.heap.size := by
  show (w.heap.modify _ _).size = _
  rw [Array.size_modify]

end Go.Proofs.YtocommjoncchpaaGreatDoor

namespace Go.Proofs.YtocommjoncchpaaGreatDoor
open Go.RowKit
open Go.Maps (Keyed)
open Go.WideMaps (keyOf_string_mk)

theorem keyStr : Keyed Tryz.prog 9 := Maps.string_keyed Tryz.underlying9
theorem zeroBool (w : World) : (zeroValue 4).run Tryz.prog w = .ok (.bool false) w := by kernel_rfl

/-- Block b is a map of at most n entries; at a key lies f of it. -/
def BMap (w : World) (b n : Nat) (f : List UInt8 → Bool) : Prop :=
  ∃ D : DataW Unit, w.ownsMap Tryz.prog 9 (plainElem Tryz.prog 4) b n D ∧ Maps.IsMap D ∧ ∀ key, D.atKey (.string key) (.lit (.bool false)) = .lit (.bool (f key))

theorem BMap.made (w : World) : BMap (w.alloc (.map #[] 0)) w.heap.size 0 (fun _ => false) :=
  ⟨_, World.ownsMap_made _ _ _ _, Maps.isMap_empty, fun _ => rfl⟩
theorem BMap.kept {w w' : World} {b n : Nat} {f : List UInt8 → Bool} (h : BMap w b n f) (hb : Below w.heap.size w w') : BMap w' b n f := by
  obtain ⟨D, h1, h2, h3⟩ := h
  exact ⟨D, h1.kept (⟨hb.os, hb.tape, hb.output, hb.size, fun k hk _ => hb.block k hk⟩ : w.grownBy w' none) (by simp), h2, h3⟩
theorem BMap.lt {w : World} {b n : Nat} {f : List UInt8 → Bool} (h : BMap w b n f) : b < w.heap.size := by
  obtain ⟨D, h1, _⟩ := h; exact h1.lt
set_option maxRecDepth 100000 in
theorem plainElem_bool_inv {v : Value} {x : Bool} {ps : List MemPlace} (h : plainElem (H := Unit) Tryz.prog 4 v = some (.lit (.bool x), ps)) : v = .bool x := by
  unfold plainElem at h
  rw [Tryz.underlying4] at h
  cases v <;> simp at h
  rw [h.1]
theorem BMap.look {w : World} {b n : Nat} {f : List UInt8 → Bool} (h : BMap w b n f) {T : TypeId} (ht : Tryz.prog.underlying T = some (.map 9 4)) {key : List UInt8} (hk : key.length ≤ maxLen) :
    (Instr.lookup T (.map (some b)) (S key) false).run Tryz.prog w = .ok (.bool (f key)) w := by
  obtain ⟨D, h1, _, h3⟩ := h
  obtain ⟨v, ps, hrun, hv⟩ := h1.lookup keyStr ht (zeroBool w) (plainElem_bool Tryz.underlying4 false) (keyOf_string_mk Tryz.underlying9 (s := ⟨key.toArray⟩) hk)
  rw [h3] at hv
  rw [hrun, plainElem_bool_inv hv]
theorem BMap.update {w : World} {b n : Nat} {f : List UInt8 → Bool} (h : BMap w b n f) {T : TypeId} (ht : Tryz.prog.underlying T = some (.map 9 4)) (hn : n < maxLen) {key : List UInt8} (hk : key.length ≤ maxLen) (x : Bool) :
    ∃ w', (Instr.mapUpdate T (.map (some b)) (S key) (.bool x)).run Tryz.prog w = .ok () w' ∧ BMap w' b (n + 1) (fun k => if k = key then x else f k) ∧ w.grownBy w' (some b) := by
  obtain ⟨D, h1, h2, h3⟩ := h
  obtain ⟨w', hrun, hown, hg⟩ := h1.update keyStr ht hn (keyOf_string_mk Tryz.underlying9 (s := ⟨key.toArray⟩) hk) (plainElem_bool Tryz.underlying4 x)
  refine ⟨w', hrun, ⟨_, hown, h2.put _ _, fun k => ?_⟩, hg⟩
  show (D.put (Lit.string key) (DataW.lit (Lit.bool x))).atKey (Lit.string k) (DataW.lit (Lit.bool false)) = DataW.lit (Lit.bool (if k = key then x else f k))
  by_cases hkk : k = key
  · subst hkk
    rw [if_pos rfl]
    exact Maps.atKey_put_same h2 (by trivial) _ _
  · rw [if_neg hkk, Maps.atKey_put_other (by intro e; exact hkk (by simpa using e)), h3]
theorem wpList_bmap_update {P : Program} (hP : P = Tryz.prog) (w : World) {ops : Array Oper} {rest : List Oper} {o : Oper} {a : Act} {Q : Exit → Act → World → Prop}
    (hg : o.guard = none) (m x v : Operand) (t : TypeId) (hop : o.op = Op.mapUpdate t m x v ∨ o.op = Op.insert t m x v) (ht : Tryz.prog.underlying t = some (.map 9 4))
    {b n : Nat} {f : List UInt8 → Bool} (h : BMap w b n f) (hn : n < maxLen) (key : List UInt8) (hk : key.length ≤ maxLen) (y : Bool) (hm : a.eval m = .map (some b)) (hx : a.eval x = S key) (hv : a.eval v = .bool y)
    (hK : ∀ w', BMap w' b (n + 1) (fun k => if k = key then y else f k) → w.grownBy w' (some b) → wpList P ops Q rest (a.put o.dst undef) w') : wpList P ops Q (o :: rest) a w := by
  subst hP
  refine wpList_plain hg fun K' hK' => ?_
  obtain ⟨w', hrun, r1, r2⟩ := h.update ht hn hk y
  unfold Oper.wp
  rcases hop with hop | hop
  · simp [execOp, hop, hm, hx, hv, hrun, Result.andThen]
    exact hK' _ _ (hK w' r1 r2)
  · simp [execOp, hop, hm, hx, hv, hrun, Result.andThen]
    exact hK' _ _ (hK w' r1 r2)
end Go.Proofs.YtocommjoncchpaaGreatDoor

namespace Go.Proofs.YtocommjoncchpaaGreatDoor
open Go.RowKit

/-- The slice v reads as the elements xs, f the cells of one. -/
def Row {α : Type} (f : α → List Value) (w : World) (v : Value) (xs : List α) : Prop :=
  ∃ a c, v = .slice a xs.length c ∧ xs.length ≤ c ∧ c ≤ maxLen ∧ (xs = [] ∨ ∃ b o, a = some ⟨b, o, none⟩ ∧ ∀ j x, xs[j]? = some x → ∀ i u, (f x)[i]? = some u → w.cell? ⟨b, o + j * (f x).length + i, none⟩ = some u)

theorem Row.below {α : Type} {f : α → List Value} {w w' : World} {v : Value} {xs : List α} (h : Row f w v xs) (hb : Below w.heap.size w w') : Row f w' v xs := by
  obtain ⟨a, c, hv, hc, hm, h⟩ := h
  refine ⟨a, c, hv, hc, hm, ?_⟩
  rcases h with h | ⟨b, o, ha, h⟩
  · exact .inl h
  · exact .inr ⟨b, o, ha, fun j x hx i u hu => cell_below hb (h j x hx i u hu)⟩
theorem Row.nil {α : Type} (f : α → List Value) (w : World) : Row f w (.slice none 0 0) [] := ⟨none, 0, rfl, Nat.le_refl _, by unfold maxLen; omega, .inl rfl⟩

/-- A tree that is kept: its name, its key. -/
abbrev Snp := List UInt8 × List UInt8
abbrev snpC (x : Snp) : List Value := [S x.1, S x.2]
abbrev SnpV (x : Snp) : Value := .agg #[S x.1, S x.2]
abbrev SnpRow := Row snpC

theorem snp_cells {w : World} {b o : Nat} {xs : List Snp} (h : ∀ j x, xs[j]? = some x → ∀ i u, (snpC x)[i]? = some u → w.cell? ⟨b, o + j * (snpC x).length + i, none⟩ = some u) {j : Nat} (hj : j < xs.length) :
    w.cell? ⟨b, o + j * 2, none⟩ = some (S xs[j].1) ∧ w.cell? ⟨b, o + j * 2 + 1, none⟩ = some (S xs[j].2) :=
  ⟨h j xs[j] (by simp [hj]) 0 _ rfl, h j xs[j] (by simp [hj]) 1 _ rfl⟩

theorem flat_at : ∀ (xs : List Snp) (j : Nat) (x : Snp) (i : Nat) (u : Value), xs[j]? = some x → (snpC x)[i]? = some u → (xs.flatMap snpC)[j * (snpC x).length + i]? = some u
  | [], j, x, i, u, h, _ => by simp at h
  | y :: ys, 0, x, i, u, h, hu => by
    simp at h; subst h
    rw [List.flatMap_cons, Nat.zero_mul, Nat.zero_add, List.getElem?_append_left (List.getElem?_eq_some_iff.1 hu).1]
    exact hu
  | y :: ys, j + 1, x, i, u, h, hu => by
    have ih := flat_at ys j x i u (by simpa using h) hu
    rw [List.flatMap_cons, List.getElem?_append_right (by simp; omega)]
    rw [← ih]
    congr 1
    simp
    omega
theorem flat_len : ∀ xs : List Snp, (xs.flatMap snpC).length = xs.length * 2
  | [] => rfl
  | y :: ys => by rw [List.flatMap_cons, List.length_append, flat_len ys]; simp; omega

theorem Row.of_owns {w : World} {base e : Nat} {v : Value} {xs : List Snp} (h : w.ownsRow base e 2 v xs.length (xs.flatMap snpC)) : SnpRow w v xs := by
  obtain ⟨_, h⟩ := h
  rcases h with ⟨hv, hn⟩ | ⟨g, cap, cur, hv, _, hh, hc, hm, hs, ht⟩
  · have : xs = [] := List.length_eq_zero_iff.1 hn
    subst this; subst hv; exact Row.nil _ w
  · refine ⟨_, _, hv, hc, hm, .inr ⟨g, 0, rfl, fun j x hx i u hu => ?_⟩⟩
    have h1 : cur.toList[j * (snpC x).length + i]? = some u := by
      have : (cur.toList.take (xs.length * 2))[j * (snpC x).length + i]? = some u := by rw [ht]; exact flat_at xs j x i u hx hu
      rw [List.getElem?_take] at this
      split at this
      · exact this
      · cases this
    simp only [World.cell?, hh]
    simpa using h1
theorem new_cells (w : World) (v u : Value) (e : Nat) : ∀ (j : Nat) x, [v, u][j]? = some x → (w.alloc (.cells #[v, u] e)).cell? ((⟨w.heap.size, 0, none⟩ : Addr).add j) = some x := by
  intro j x hj
  match j, hj with
  | 0, hj => simp at hj; subst hj; simp [Addr.add]
  | 1, hj => simp at hj; subst hj; simp [Addr.add]
theorem new_cell_at {w : World} {b : Nat} (hb : b = w.heap.size) (v : Value) (e : Nat) : ∀ (j : Nat) u, [v][j]? = some u → (w.alloc (.cells #[v] e)).cell? ((⟨b, 0, none⟩ : Addr).add j) = some u := by
  subst hb; exact new_cell w v e
theorem new_cells_at {w : World} {b : Nat} (hb : b = w.heap.size) (v u : Value) (e : Nat) : ∀ (j : Nat) x, [v, u][j]? = some x → (w.alloc (.cells #[v, u] e)).cell? ((⟨b, 0, none⟩ : Addr).add j) = some x := by
  subst hb; exact new_cells w v u e
end Go.Proofs.YtocommjoncchpaaGreatDoor
