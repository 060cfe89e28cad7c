/- The reference's Raws and Clash. A law for a range over a function whose iterator lays and turns blocks of its own while the rounds lay and turn theirs: Ow says which block is not the rounds'. A map from texts to bools that the call makes, in plain words. Few objects, of few bytes, that are fit: plain. What rounds keep of an iterator's, and an iterator of the rounds': a box whose row the rounds turn. How many keys bytes name: plain. -/
import Derived.Test.YtkejdbidomlonaaGreatDoorRRaw12
import Derived.Test.YtkejdbidomlonaaGreatDoorJRKey11
import Derived.Test.YtkejdbidomlonaaGreatDoorJObjAt
import Derived.Test.YtkejdbidomlonaaGreatDoorJPlain
import Derived.Maps.OwnOps
import Derived.Maps.Views
import Derived.StringKeys
import Derived.Test.YtkejdbidomlonaaGreatDoorJItB
import Derived.Test.YtkejdbidomlonaaGreatDoorJKeyNP
import Derived.Test.YtkejdbidomlonaaGreatDoorJNodeFit
import Derived.Test.YtkejdbidomlonaaGreatDoorJBuildPlain
namespace Go.Proofs.YtkejdbidomlonaaGreatDoor
open Go.RowKit

set_option maxHeartbeats 4000000 in
set_option maxRecDepth 100000 in
theorem rraws12_walk (x k y z : Nat) (iv : Value) (items : List Itm) (w : World) (hf : FitC x k z) (hpk : 2 ^ k = y) (hrd : Ready (piecesC x k z) items) (hir : ItRow w iv items) (hcnt : (nodesD (piecesC x k z) items 9 []).length ≤ 200000) :
    Calls Tryz.prog 12 #[PrmV x y z, iv] w fun e w' => ∃ v', e = .returned v' ∧ w'.ownsRow w.heap.size 9 1 v' (rawsN (nodesD (piecesC x k z) items 9 [])).length ((rawsN (nodesD (piecesC x k z) items 9 [])).map S) ∧ Below w.heap.size w w' := by
  obtain ⟨w1, hw1, HB1, HC1⟩ : ∃ w1, w1 = w.alloc (.cells #[.int .i64 (x : Nat), .int .i64 (y : Nat), .int .i64 (z : Nat)] 23) ∧ Hid (Below w.heap.size w w1) ∧ Hid (w1.heap[w.heap.size]? = some (.cells #[.int .i64 (x : Nat), .int .i64 (y : Nat), .int .i64 (z : Nat)] 23 (0, 0))) :=
    ⟨_, rfl, Lib.hid ((Below.refl _ _).alloc (Nat.le_refl _) _), Lib.hid (heap_alloc_new _ _)⟩
  have C := rraw12_walk x k y z iv items w hf hpk hrd hir 9 0 (.slice none 0 0) [] [] w1 HB1.out (World.ownsRow_nil _ _ _ _) rfl rfl (.inl rfl) (by simpa using hcnt)
  have c0 := heap_cell HC1.out (j := 0) (v := .int .i64 (x : Nat)) rfl
  have c1 := heap_cell HC1.out (j := 1) (v := .int .i64 (y : Nat)) rfl
  have c2 := heap_cell HC1.out (j := 2) (v := .int .i64 (z : Nat)) rfl
  obtain ⟨ia, ic, rfl⟩ := row_slice hir
  rw [List.nil_append] at C
  generalize rawsN (nodesD (piecesC x k z) items 9 []) = rs at *
  clear hf hpk hrd hir hcnt
  go_enter Tryz.func12, Tryz.ntmps12
  go_upto_region 1 with fail
  rw [← hw1]
  clear hw1
  go_wp2_with fail
  refine C.mono ?_
  rintro e w2 ⟨v2, rfl, hg⟩
  have HO := Lib.hid hg.own
  have HB2 := Lib.hid (show Below w.heap.size w w2 from hg.base rfl HB1.out HB1.out.size (fun j hj => by simp [Value.ownBlock] at hj))
  clear C hg c0 c1 c2
  go_wp2
  go_ret
  exact ⟨_, rfl, HO.out, HB2.out⟩

/-- What Clash answers. -/
def ClashPost (l : List (List UInt8)) (w : World) (e : Ending) (w' : World) : Prop := ∃ b : Bool, e = .returned (.bool b) ∧ (b = true ↔ ClashP l) ∧ Below w.heap.size w w'
/-- Behind some texts of which no two have one sum: the objects. -/
structure ClashI (t : List (List UInt8)) (o : List Snp) : Prop where
  fit : fit5 (namesR o) = true
  here : ∀ x ∈ t, findR o (shaF x) = some x
  from_ : ∀ y ∈ o, y.2 ∈ t ∧ y.1 = shaF y.2
theorem ClashI.no {t : List (List UInt8)} {o : List Snp} (h : ClashI t o) : ¬ ClashP t := by
  rintro ⟨a, ha, b, hb, hne, he⟩
  have h1 := h.here a ha
  rw [he, h.here b hb] at h1
  injection h1 with h1
  exact hne h1.symm
theorem ClashI.next {t : List (List UInt8)} {o : List Snp} (h : ClashI t o) {x : List UInt8} (hx : findR o (shaF x) = none ∨ findR o (shaF x) = some x) : ClashI (t ++ [x]) (addO o (shaF x, x)) := by
  have hu := fit5_up12 h.fit
  refine ⟨addO_fit h.fit, fun y hy => ?_, fun y hy => ?_⟩
  · unfold addO
    by_cases hs : (findR o (shaF x)).isSome = true
    · rw [if_pos (.inl hs)]
      rcases List.mem_append.1 hy with hy | hy
      · exact h.here y hy
      · rw [List.mem_singleton.1 hy]
        rcases hx with hx | hx
        · rw [hx] at hs; cases hs
        · exact hx
    · rw [if_neg (by rintro (h1 | h1); exact hs h1; exact h1 (shaF_len x))]
      have hn : (shaF x, x).1 ∉ namesR o := by
        intro hm
        rw [findR_is hu] at hs
        exact hs (by simpa using hm)
      obtain ⟨h1, h2⟩ := addO_finds hu hn
      rcases List.mem_append.1 hy with hy | hy
      · have h3 := h.here y hy
        obtain ⟨z, hz, e1, e2⟩ : ∃ z ∈ o, z.1 = shaF y ∧ z.2 = y := by
          unfold findR at h3
          rw [Option.map_eq_some_iff] at h3
          obtain ⟨z, hz, e⟩ := h3
          exact ⟨z, List.mem_of_find?_eq_some hz, by have := List.find?_some hz; simpa using this, e⟩
        have h4 := h2 z hz
        rw [e1, e2] at h4
        exact h4
      · rw [List.mem_singleton.1 hy]; exact h1
  · unfold addO at hy
    split at hy
    · obtain ⟨h1, h2⟩ := h.from_ y hy
      exact ⟨List.mem_append_left _ h1, h2⟩
    · rcases mem_insO.1 hy with rfl | hy
      · exact ⟨List.mem_append_right _ (List.mem_singleton.2 rfl), rfl⟩
      · obtain ⟨h1, h2⟩ := h.from_ y hy
        exact ⟨List.mem_append_left _ h1, h2⟩
theorem ClashI.hit {t : List (List UInt8)} {o : List Snp} (h : ClashI t o) {x r : List UInt8} (hr : findR o (shaF x) = some r) (hne : r ≠ x) {l : List (List UInt8)} (ht : ∀ y ∈ t, y ∈ l) (hx : x ∈ l) : ClashP l := by
  unfold findR at hr
  rw [Option.map_eq_some_iff] at hr
  obtain ⟨z, hz, e⟩ := hr
  have h1 := List.mem_of_find?_eq_some hz
  have h2 : z.1 = shaF x := by have := List.find?_some hz; simpa using this
  obtain ⟨h3, h4⟩ := h.from_ z h1
  rw [e] at h3 h4
  exact ⟨r, ht r h3, x, hx, hne, by rw [← h4, h2]⟩

set_option maxHeartbeats 8000000 in
set_option maxRecDepth 100000 in
theorem rclash12_walk (v : Value) (l : List (List UInt8)) (w : World) (hr : StrRow w v l) (hcnt : l.length ≤ 900000) (hlen : ∀ x ∈ l, x.length ≤ 1100000) :
    Calls Tryz.prog 11 #[v] w (ClashPost l w) := by
  obtain ⟨a, c, rfl, hc, hm, hx⟩ := hr
  have HX := Lib.hid hx
  have HLEN := Lib.hid hlen
  have HYES := Lib.hid (fun (h : ClashP l) (w' : World) (hB : Below w.heap.size w w') => show ClashPost l w (.returned (.bool true)) w' from ⟨true, rfl, ⟨fun _ => h, fun _ => rfl⟩, hB⟩)
  have HNO := Lib.hid (fun (h : ¬ ClashP l) (w' : World) (hB : Below w.heap.size w w') => show ClashPost l w (.returned (.bool false)) w' from ⟨false, rfl, ⟨fun e => (by cases e), fun e => absurd e h⟩, hB⟩)
  clear hx hlen
  go_enter Tryz.func11, Tryz.ntmps11
  go_wp2
  go_loopw [3, 4] (fun ov i wr => ∃ (k : Nat) (o : List Snp), k ≤ l.length ∧ i = .int .i64 k ∧ Hid (ClashI (l.take k) o) ∧ o.length ≤ k ∧ SnpRow wr ov o ∧ Below w.heap.size w wr) (fun _ i _ => l.length - (intOf i).toNat)
  case atStart => exact ⟨0, [], Nat.zero_le _, rfl, Lib.hid ⟨rfl, by simp, by simp⟩, by simp, Row.nil _ _, Below.refl _ _⟩
  case round =>
    obtain ⟨k, o, hk, rfl, HI, hol, hor, hB⟩ := hrel
    have HB := Lib.hid hB
    have HOR := Lib.hid hor
    obtain ⟨oa, oc, rfl⟩ := row_slice hor
    by_cases h1 : k < l.length
    · have h1' : (k : Int) < (l.length : Int) := by omega
      have hx := HX.out
      rcases hx with hx | ⟨b, o2, rfl, hx⟩
      · exfalso; rw [hx] at h1; simp at h1
      have hc1 := cell_below hB (str_cell hx h1)
      have HT := Lib.hid (show l.take (k + 1) = l.take k ++ [l[k]] from List.take_succ_eq_append_getElem h1)
      have HMEM := Lib.hid (show l[k] ∈ l from List.getElem_mem h1)
      have hsl := HLEN.out l[k] HMEM.out
      clear hx hor hB
      generalize l[k] = s at *
      have CS := rsha_walk s wr hsl
      have HNX := Lib.hid (fun (h : findR o (shaF s) = none ∨ findR o (shaF s) = some s) => HI.out.next h)
      have HHIT := Lib.hid (fun (r : List UInt8) (h : findR o (shaF s) = some r) (hne : r ≠ s) => (HI.out.hit h hne (fun y hy => List.mem_of_mem_take hy) HMEM.out : ClashP l))
      obtain ⟨kk, hkk⟩ : ∃ kk, shaF s = kk := ⟨_, rfl⟩
      rw [hkk] at CS HNX HHIT
      clear hkk
      go_wp2_with fail
      refine CS.mono ?_
      rintro e w2 ⟨rfl, hb2⟩
      have HB2 := Lib.hid (below_chain HB.out hb2 HB.out.size)
      have HR2 := Lib.hid (HOR.out.below hb2)
      have hc2 := cell_below hb2 hc1
      have CG := rget_walk (.slice oa o.length oc) o kk w2 HR2.out (by omega)
      clear CS hb2 hc1
      go_wp2_with fail
      refine CG.mono ?_
      rintro e w3 ⟨rfl, hb3⟩
      have HB3 := Lib.hid (below_chain HB2.out hb3 HB2.out.size)
      have HR3 := Lib.hid (HR2.out.below hb3)
      have hc3 := cell_below hb3 hc2
      clear CG hb3 hc2
      have CA := r12add_walk (.slice oa o.length oc) o (kk, s) w3 HR3.out (by omega)
      cases hf : findR o kk with
      | none =>
        have HN := Lib.hid (HNX.out (.inl hf))
        have HL := Lib.hid (addO_len o (kk, s))
        generalize addO o (kk, s) = o' at *
        simp only [rootOf, Option.isSome_none]
        clear HNX HHIT hf
        go_wp2_with fail
        refine CA.mono ?_
        rintro e w4 ⟨v4, rfl, hr4, hb4⟩
        have HR4 := Lib.hid hr4
        have HB4 := Lib.hid (below_chain HB3.out hb4 HB3.out.size)
        clear CA hr4 hb4
        go_wp2
        go_roundw
        case rel => exact ⟨k + 1, o', by omega, by go_num, by rw [HT.out]; exact HN, by have := HL.out; omega, HR4.out, HB4.out⟩
        case measure => simp [intOf]; omega
      | some r =>
        simp only [rootOf, Option.isSome_some]
        by_cases hrs : r = s
        · subst hrs
          have HN := Lib.hid (HNX.out (.inr hf))
          have HL := Lib.hid (addO_len o (kk, r))
          generalize addO o (kk, r) = o' at *
          have hne : (r == r) = true := by simp
          clear HNX HHIT hf
          go_wp2_with fail
          refine CA.mono ?_
          rintro e w4 ⟨v4, rfl, hr4, hb4⟩
          have HR4 := Lib.hid hr4
          have HB4 := Lib.hid (below_chain HB3.out hb4 HB3.out.size)
          clear CA hr4 hb4
          go_wp2
          go_roundw
          case rel => exact ⟨k + 1, o', by omega, by go_num, by rw [HT.out]; exact HN, by have := HL.out; omega, HR4.out, HB4.out⟩
          case measure => simp [intOf]; omega
        · have hne : (r == s) = false := by rw [beq_eq_false_iff_ne]; exact hrs
          have HH := Lib.hid (HHIT.out r hf hrs)
          clear HNX HHIT hf hrs CA
          go_wp2
          go_ret
          exact HYES.out HH.out _ HB3.out
    · have h1' : ¬ (k : Int) < (l.length : Int) := by omega
      have HN := Lib.hid (show ¬ ClashP l by
        have := HI.out.no
        rwa [List.take_of_length_le (by omega)] at this)
      go_wp2
      go_ret
      exact HNO.out HN.out _ HB.out
theorem rawsN_small (l : List Nod) : ∀ x ∈ rawsN l, x.length ≤ 1100000 := by
  intro x hx
  obtain ⟨n, _, rfl⟩ := List.mem_map.1 hx
  have := writeN_len (n := n)
  omega
theorem rawsN_pos {pc : List UInt8 → List (List UInt8)} {items : List Itm} (n : Nat) (d : List UInt8) : 0 < (rawsN (nodesD pc items n d)).length := by
  rw [rawsN_len]
  exact List.length_pos_of_mem (nodesD_top n d)
end Go.Proofs.YtkejdbidomlonaaGreatDoor

namespace Go.Proofs.YtkejdbidomlonaaGreatDoor
open Go.RowKit

/-- What an iterator may turn between two rounds: blocks from N on that are not the rounds'. -/
def Stays2 {β : Type} (Ow : World → Nat → Prop) (N : Nat) (J : β → World → Prop) : Prop :=
  ∀ s A B row, J s A → A.grownBy B row → (∀ r, row = some r → N ≤ r ∧ Ow A r) → J s B
/-- What a caller's invariant must bear. -/
def Bides2 {β : Type} (Ow : World → Nat → Prop) (N : Nat) (J : β → World → Prop) : Prop :=
  ∀ s A B row, J s A → A.grownBy B row → (∀ r, row = some r → N ≤ r ∧ (Ow A r ∨ ∃ o : Obj, A.heap[r]? = some o ∧ o.isCells = false)) → J s B
/-- The contract of an iterator that hands out xs, one by one, till a round says no. -/
def IterOf2 {α : Type} (P : Program) (g : Nat) (lb : Array Value) (Ow : World → Nat → Prop) (Kp : World → World → Prop) (encs : α → Array Value) (xs : List α) (w : World) : Prop :=
  ∀ (l : Nat) (J Jx : List α → World → Prop) (W : World), Kp w W → w.heap.size + 2 ≤ W.heap.size → Stays2 Ow W.heap.size J → Stays2 Ow W.heap.size Jx →
    (∀ pre x W1, J pre W1 → pre ++ [x] <+: xs → YieldAt Fence.wide 2 P l (encs x) W1 fun e W' =>
      (e = .returned (.bool true) ∧ J (pre ++ [x]) W' ∧ Kp W1 W') ∨ (e = .returned (.bool false) ∧ Jx (pre ++ [x]) W')) →
    J [] W →
    Calls P g (#[.func (.yield l) #[] #[]] ++ lb) W fun e W' => (∃ v, e = .returned v) ∧ (J xs W' ∨ ∃ pre, pre <+: xs ∧ Jx pre W')

theorem Bides2.put {β : Type} {Ow : World → Nat → Prop} {N : Nat} {J : β → World → Prop} (h : Bides2 Ow N J) {s : β} {W : World} {l : Nat} {o : Obj} (o' : Obj) (hs : J s W) (hN : N ≤ l) (hl : W.heap[l]? = some o) (ho : o.isCells = false) : J s (W.putObj l o') :=
  h s W _ (some l) hs (grownBy_putObj' W l o') (fun r e => by cases e; exact ⟨hN, .inr ⟨o, hl, ho⟩⟩)
theorem Bides2.new {β : Type} {Ow : World → Nat → Prop} {N : Nat} {J : β → World → Prop} (h : Bides2 Ow N J) {s : β} {W : World} (o : Obj) (hs : J s W) : J s (W.alloc o) :=
  h s W _ none hs (World.grownBy_alloc W o none) (fun r e => by cases e)

section
variable {P : Program}

/-- The law, at a loop that stands in no other loop's round. -/
theorem range_law2 {α : Type} {g : Operand} {ps : Array Tmp} {assign body : Code} {Q : Exit → Act → World → Prop} {a : Act} {w : World}
    {gf : Nat} {lb : Array Value} (hg : a.eval g = .func (.func gf) #[] lb) (eg : ∀ args w, (callFunc gf args).run P w = .ok (.enter gf args) w)
    {Ow : World → Nat → Prop} {Kp : World → World → Prop} {encs : α → Array Value} {xs : List α} (hseq : IterOf2 P gf lb Ow Kp encs xs w)
    (hKt : ∀ {A B C : World}, Kp A B → Kp B C → Kp A C) (hKb : ∀ (W : World) (o : Obj), Kp W (W.putObj (w.heap.size + 1) o)) (hKa : ∀ o o', Kp w ((w.alloc o).alloc o')) (hps : ∀ x, (encs x).size = ps.size)
    (I : List α → World → Prop) (Ix : Code → List α → World → Prop) (hI : Bides2 Ow w.heap.size I) (hIx : ∀ c, Bides2 Ow w.heap.size (Ix c)) (h0 : I [] w)
    (Ax : α → Act → World → Prop) (hAx : ∀ x a', Bides2 Ow w.heap.size (fun (_ : Unit) W => Ax x a' W))
    (hassign : ∀ (l : Nat) (pre : List α) (x : α) (W : World) (K : Act → World → Prop), I pre W → (∀ a' W', KeepsFrom w.heap.size W W' → Kp W W' → I pre W' → Ax x a' W' → K a' W') →
      assign.wpIn (Fence.wide.inRound l) 2 P (Exit.then K (fun _ _ _ => False)) { tmps := (ps.zip (encs x)).foldl (fun t (p, v) => t.setIfInBounds p v) a.tmps, defers := [] } W)
    (hbody : ∀ (l : Nat) (pre : List α) (x : α) (a' : Act) (W : World), w.heap.size ≤ l → (∃ r, W.heap[l]? = some (.loop r)) → I pre W → Ax x a' W → pre ++ [x] <+: xs →
      body.wpIn (Fence.wide.inRound l) 2 P (ownPostG w.heap.size Kp I Ix (pre ++ [x]) W) a' W)
    (hdone : ∀ (D : Nat) (W : World), w.heap.size ≤ D → I xs W → W.heap[D]? = some (.deferred (some [])) → Q .normal { a with defers := { target := .collected D, args := #[] } :: a.defers } W)
    (hstop : ∀ (D : Nat) (c : Code) (pre : List α) (W : World), w.heap.size ≤ D → pre <+: xs → Ix c pre W → W.heap[D]? = some (.deferred (some [])) → c.wpIn Fence.wide 3 P Q { a with defers := { target := .collected D, args := #[] } :: a.defers } W) :
    (Code.rangeFunc g ps assign body).wpIn Fence.wide 3 P Q a w := by
  refine wpIn_rangeFunc ?_
  intro fn hfn
  have hro : Fence.wide.round = none := rfl
  rw [hro]
  obtain ⟨rec, hrec⟩ : ∃ rec : LoopState → Option Code → Loop, rec = fun st pe => { state := st, pending := pe, fn, tmps := a.tmps, params := ps, assign, body, defers := w.heap.size } := ⟨_, rfl⟩
  obtain ⟨W1, hW1⟩ : ∃ W1, (w.alloc (.deferred (some []))).alloc (.loop (rec .ready none)) = W1 := ⟨_, rfl⟩
  have hL1 : W1.heap[w.heap.size + 1]? = some (.loop (rec .ready none)) := by
    rw [← hW1]; have := World.alloc_heap_new (w.alloc (.deferred (some []))) (.loop (rec .ready none)); rwa [World.size_alloc] at this
  have hK1 : W1.heap[w.heap.size]? = some (.deferred (some [])) := by
    rw [← hW1]; exact (Below.heap_alloc _ _ _ (by simp)).trans (World.alloc_heap_new w _)
  have hI1 : I [] W1 := by rw [← hW1]; exact hI.new _ (hI.new _ h0)
  have hKp1 : Kp w W1 := by rw [← hW1]; exact hKa _ _
  have hsz1 : W1.heap.size = w.heap.size + 2 := by rw [← hW1]; simp
  refine ⟨w.heap.size + 1, [{ target := .collected w.heap.size, args := #[] }], W1, { target := .fn (.func gf) lb, args := #[.func (.yield (w.heap.size + 1)) #[] #[]] }, W1, gf,
    #[.func (.yield (w.heap.size + 1)) #[] #[]] ++ lb, W1, ?_, ?_, ?_, ?_, (fun _ => by omega), ?_⟩
  · rw [← hW1, hrec]; exact run_enterLoop_outer _ _ _ _ _
  · simp only [resolve, hg]
    simp [go_sem]
  · intro f' _; trivial
  · simp [invoke, go_sem, eg]
  · -- THE BOOK-KEEPING: no step of the iterator's turns the record or the block for deferred calls
    have hne : ∀ {A : World} {row : Option Nat} {k : Nat} {o : Obj}, (∀ r, row = some r → W1.heap.size ≤ r ∧ Ow A r) → w.heap.size ≤ k → k < W1.heap.size → A.heap[k]? = some o → some k ≠ row := by
      intro A row k o hr hk1 hk2 _ e
      have := (hr k e.symm).1
      omega
    have hcells : ∀ {A : World} {row : Option Nat}, (∀ r, row = some r → W1.heap.size ≤ r ∧ Ow A r) → (∀ r, row = some r → w.heap.size ≤ r ∧ (Ow A r ∨ ∃ o : Obj, A.heap[r]? = some o ∧ o.isCells = false)) := by
      intro A row hr r e
      exact ⟨by have := (hr r e).1; omega, .inl (hr r e).2⟩
    have hkeep : ∀ {A B : World} {row : Option Nat} {k : Nat} {o : Obj}, A.grownBy B row → some k ≠ row → A.heap[k]? = some o → B.heap[k]? = some o := by
      intro A B row k o hgr hn hk
      exact (hgr.block k (Array.getElem?_eq_some_iff.1 hk).1 hn).trans hk
    refine callsIn_wide.2 ((hseq (w.heap.size + 1)
      (fun pre W => I pre W ∧ W.heap[w.heap.size + 1]? = some (.loop (rec .ready none)) ∧ W.heap[w.heap.size]? = some (.deferred (some [])))
      (fun pre W => ∃ c, Ix c pre W ∧ W.heap[w.heap.size + 1]? = some (.loop (rec .done (some c))) ∧ W.heap[w.heap.size]? = some (.deferred (some [])))
      W1 hKp1 (by omega)
      (fun s A B row hs hg' hr => ⟨hI s A B row hs.1 hg' (hcells hr), hkeep hg' (hne hr (by omega) (by omega) hs.2.1) hs.2.1, hkeep hg' (hne hr (by omega) (by omega) hs.2.2) hs.2.2⟩)
      (fun s A B row hs hg' hr => by
        obtain ⟨c, hc, hl, hk⟩ := hs
        exact ⟨c, hIx c s A B row hc hg' (hcells hr), hkeep hg' (hne hr (by omega) (by omega) hl) hl, hkeep hg' (hne hr (by omega) (by omega) hk) hk⟩)
      ?_ ⟨hI1, hL1, hK1⟩).mono ?_)
    · -- ONE ROUND
      rintro pre x W ⟨hi, hl, hk⟩ hpx
      have hy := run_yield (P := P) (args := encs x) hl (by rw [hrec]; exact hps x)
      rw [hrec] at hy
      refine ⟨fn, _, assign, body, hy, roundIn_of_wpIn hfn (hassign _ pre x W _ hi ?_)⟩
      clear hy
      intro a' Wa hkfa hkpa hia hax
      have hla := hkfa.same _ _ (by omega) hl rfl
      have hka := hkfa.same _ _ (Nat.le_refl _) hk rfl
      have hlta : w.heap.size + 1 < Wa.heap.size := (Array.getElem?_eq_some_iff.1 hla).1
      refine ⟨_, run_beginRound hla (by rw [hrec]), ?_⟩
      have hl2 : (Wa.putObj (w.heap.size + 1) (.loop { rec .ready none with state := .busy })).heap[w.heap.size + 1]? = some (.loop { rec .ready none with state := .busy }) := World.putObj_heap_same hlta
      have hk2 : (Wa.putObj (w.heap.size + 1) (.loop { rec .ready none with state := .busy })).heap[w.heap.size]? = some (.deferred (some [])) := (World.putObj_heap_other (by omega)).trans hka
      have hw2 : Kp Wa (Wa.putObj (w.heap.size + 1) (.loop { rec .ready none with state := .busy })) := hKb _ _
      refine wpIn_mono (hbody _ pre x a' _ (by omega) ⟨_, hl2⟩ (hI.put _ hia (by omega) hla rfl) ((hAx x a').put (s := ()) _ hax (by omega) hla rfl) hpx) ?_
      have fin : ∀ (jump : Option Code) (W3 : World), KeepsFrom w.heap.size (Wa.putObj (w.heap.size + 1) (.loop { rec .ready none with state := .busy })) W3 →
          (Instr.endRound (w.heap.size + 1) jump).run P W3 = .ok (.bool jump.isNone) (W3.putObj (w.heap.size + 1) (.loop (rec (if jump.isNone then .ready else .done) jump))) ∧
          W3.heap[w.heap.size + 1]? = some (.loop { rec .ready none with state := .busy }) ∧
          (W3.putObj (w.heap.size + 1) (.loop (rec (if jump.isNone then .ready else .done) jump))).heap[w.heap.size + 1]? = some (.loop (rec (if jump.isNone then .ready else .done) jump)) ∧
          (W3.putObj (w.heap.size + 1) (.loop (rec (if jump.isNone then .ready else .done) jump))).heap[w.heap.size]? = some (.deferred (some [])) := fun jump W3 hk3 => by
        have hl3 := hk3.same _ _ (by omega) hl2 rfl
        have := run_endRound (P := P) jump hl3
        rw [hrec] at this ⊢
        exact ⟨this, by rw [hrec] at hl3; exact hl3, World.putObj_heap_same (Array.getElem?_eq_some_iff.1 hl3).1, (World.putObj_heap_other (by omega)).trans (hk3.same _ _ (Nat.le_refl _) hk2 rfl)⟩
      rintro e a3 W3 hp
      cases e with
      | normal =>
        obtain ⟨hk3, hkp3, hi3⟩ := hp
        obtain ⟨hr, hl3, hl4, hk4⟩ := fin none W3 hk3
        exact ⟨_, _, hr, .inl ⟨rfl, ⟨hI.put _ hi3 (by omega) hl3 rfl, hl4, hk4⟩, hKt hkpa (hKt (hKt hw2 hkp3) (hKb _ _))⟩⟩
      | ret =>
        obtain ⟨hk3, hi3⟩ := hp
        obtain ⟨hr, hl3, hl4, hk4⟩ := fin (some .ret) W3 hk3
        exact ⟨_, _, hr, .inr ⟨rfl, .ret, (hIx _).put _ hi3 (by omega) hl3 rfl, hl4, hk4⟩⟩
      | exit id =>
        obtain ⟨hk3, hi3⟩ := hp
        obtain ⟨hr, hl3, hl4, hk4⟩ := fin (some (.exit id)) W3 hk3
        exact ⟨_, _, hr, .inr ⟨rfl, .exit id, (hIx _).put _ hi3 (by omega) hl3 rfl, hl4, hk4⟩⟩
      | goto t =>
        obtain ⟨hk3, hi3⟩ := hp
        obtain ⟨hr, hl3, hl4, hk4⟩ := fin (some (.goto t)) W3 hk3
        exact ⟨_, _, hr, .inr ⟨rfl, .goto t, (hIx _).put _ hi3 (by omega) hl3 rfl, hl4, hk4⟩⟩
      | panic ch => exact hp.elim
      | outgrown => exact hp.elim
    · -- BEHIND THE ITERATOR
      rintro e W2 ⟨⟨v, rfl⟩, (⟨hi, hl, hk⟩ | ⟨pre, hpre, c, hi, hl, hk⟩)⟩
      · exact ⟨none, _, by have := run_endLoop (P := P) hl (by rw [hrec]; simp); rw [hrec] at this; exact this, hdone _ _ (Nat.le_refl _) (hI.put _ hi (by omega) hl rfl) ((World.putObj_heap_other (by omega)).trans hk)⟩
      · exact ⟨some c, _, by have := run_endLoop (P := P) hl (by rw [hrec]; simp); rw [hrec] at this; exact this, hstop _ c pre _ (Nat.le_refl _) hpre ((hIx c).put _ hi (by omega) hl rfl) ((World.putObj_heap_other (by omega)).trans hk)⟩
end
end Go.Proofs.YtkejdbidomlonaaGreatDoor

namespace Go.Proofs.YtkejdbidomlonaaGreatDoor
open Go.RowKit
open Go.Maps (Keyed)
open Go.WideMaps (keyOf_string_mk)

theorem keyStr : Keyed Tryz.prog 9 := Maps.string_keyed Tryz.underlying9
theorem zeroBool (w : World) : (zeroValue 4).run Tryz.prog w = .ok (.bool false) w := by kernel_rfl

/-- Block b is a map of at most n entries; at a key lies f of it. -/
def BMap (w : World) (b n : Nat) (f : List UInt8 → Bool) : Prop :=
  ∃ D : DataW Unit, w.ownsMap Tryz.prog 9 (plainElem Tryz.prog 4) b n D ∧ Maps.IsMap D ∧ ∀ key, D.atKey (.string key) (.lit (.bool false)) = .lit (.bool (f key))

theorem BMap.made (w : World) : BMap (w.alloc (.map #[] 0)) w.heap.size 0 (fun _ => false) :=
  ⟨_, World.ownsMap_made _ _ _ _, Maps.isMap_empty, fun _ => rfl⟩
theorem BMap.kept {w w' : World} {b n : Nat} {f : List UInt8 → Bool} (h : BMap w b n f) (hb : Below w.heap.size w w') : BMap w' b n f := by
  obtain ⟨D, h1, h2, h3⟩ := h
  exact ⟨D, h1.kept (⟨hb.os, hb.tape, hb.output, hb.size, fun k hk _ => hb.block k hk⟩ : w.grownBy w' none) (by simp), h2, h3⟩
theorem BMap.lt {w : World} {b n : Nat} {f : List UInt8 → Bool} (h : BMap w b n f) : b < w.heap.size := by
  obtain ⟨D, h1, _⟩ := h; exact h1.lt
set_option maxRecDepth 100000 in
theorem plainElem_bool_inv {v : Value} {x : Bool} {ps : List MemPlace} (h : plainElem (H := Unit) Tryz.prog 4 v = some (.lit (.bool x), ps)) : v = .bool x := by
  unfold plainElem at h
  rw [Tryz.underlying4] at h
  cases v <;> simp at h
  rw [h.1]
theorem BMap.look {w : World} {b n : Nat} {f : List UInt8 → Bool} (h : BMap w b n f) {T : TypeId} (ht : Tryz.prog.underlying T = some (.map 9 4)) {key : List UInt8} (hk : key.length ≤ maxLen) :
    (Instr.lookup T (.map (some b)) (S key) false).run Tryz.prog w = .ok (.bool (f key)) w := by
  obtain ⟨D, h1, _, h3⟩ := h
  obtain ⟨v, ps, hrun, hv⟩ := h1.lookup keyStr ht (zeroBool w) (plainElem_bool Tryz.underlying4 false) (keyOf_string_mk Tryz.underlying9 (s := ⟨key.toArray⟩) hk)
  rw [h3] at hv
  rw [hrun, plainElem_bool_inv hv]
theorem BMap.update {w : World} {b n : Nat} {f : List UInt8 → Bool} (h : BMap w b n f) {T : TypeId} (ht : Tryz.prog.underlying T = some (.map 9 4)) (hn : n < maxLen) {key : List UInt8} (hk : key.length ≤ maxLen) (x : Bool) :
    ∃ w', (Instr.mapUpdate T (.map (some b)) (S key) (.bool x)).run Tryz.prog w = .ok () w' ∧ BMap w' b (n + 1) (fun k => if k = key then x else f k) ∧ w.grownBy w' (some b) := by
  obtain ⟨D, h1, h2, h3⟩ := h
  obtain ⟨w', hrun, hown, hg⟩ := h1.update keyStr ht hn (keyOf_string_mk Tryz.underlying9 (s := ⟨key.toArray⟩) hk) (plainElem_bool Tryz.underlying4 x)
  refine ⟨w', hrun, ⟨_, hown, h2.put _ _, fun k => ?_⟩, hg⟩
  show (D.put (Lit.string key) (DataW.lit (Lit.bool x))).atKey (Lit.string k) (DataW.lit (Lit.bool false)) = DataW.lit (Lit.bool (if k = key then x else f k))
  by_cases hkk : k = key
  · subst hkk
    rw [if_pos rfl]
    exact Maps.atKey_put_same h2 (by trivial) _ _
  · rw [if_neg hkk, Maps.atKey_put_other (by intro e; exact hkk (by simpa using e)), h3]
theorem wpList_bmap_update {P : Program} (hP : P = Tryz.prog) (w : World) {ops : Array Oper} {rest : List Oper} {o : Oper} {a : Act} {Q : Exit → Act → World → Prop}
    (hg : o.guard = none) (m x v : Operand) (t : TypeId) (hop : o.op = Op.mapUpdate t m x v ∨ o.op = Op.insert t m x v) (ht : Tryz.prog.underlying t = some (.map 9 4))
    {b n : Nat} {f : List UInt8 → Bool} (h : BMap w b n f) (hn : n < maxLen) (key : List UInt8) (hk : key.length ≤ maxLen) (y : Bool) (hm : a.eval m = .map (some b)) (hx : a.eval x = S key) (hv : a.eval v = .bool y)
    (hK : ∀ w', BMap w' b (n + 1) (fun k => if k = key then y else f k) → w.grownBy w' (some b) → wpList P ops Q rest (a.put o.dst undef) w') : wpList P ops Q (o :: rest) a w := by
  subst hP
  refine wpList_plain hg fun K' hK' => ?_
  obtain ⟨w', hrun, r1, r2⟩ := h.update ht hn hk y
  unfold Oper.wp
  rcases hop with hop | hop
  · simp [execOp, hop, hm, hx, hv, hrun, Result.andThen]
    exact hK' _ _ (hK w' r1 r2)
  · simp [execOp, hop, hm, hx, hv, hrun, Result.andThen]
    exact hK' _ _ (hK w' r1 r2)
end Go.Proofs.YtkejdbidomlonaaGreatDoor

namespace Go.Proofs.YtkejdbidomlonaaGreatDoor
open Go.RowKit

structure SmallO (l : List Snp) : Prop where
  len : l.length ≤ 120
  raw : ∀ x ∈ l, x.2.length ≤ 20000
  fit : fit5 (namesR l) = true
  tot : rawsL l ≤ 20000
def SmallPost (l : List Snp) (w : World) (e : Ending) (w' : World) : Prop := ∃ b : Bool, e = .returned (.bool b) ∧ (b = true → SmallO l) ∧ Below w.heap.size w w'
end Go.Proofs.YtkejdbidomlonaaGreatDoor

namespace Go.Proofs.YtkejdbidomlonaaGreatDoor
open Go.RowKit

/-- The block of the row in box bo. -/
def outB (bo : Nat) (A : World) : Option Nat := (A.cell? ⟨bo, 0, none⟩).bind Value.ownBlock
theorem outB_box {bo t : Nat} {A : World} {v : Value} (h : Boxed A bo t v) : outB bo A = v.ownBlock := by
  unfold outB; rw [h.cell]; rfl
theorem outB_same {bo : Nat} {A B : World} (h : B.heap[bo]? = A.heap[bo]?) : outB bo B = outB bo A := by
  unfold outB; rw [World.cell?_of_block (a := ⟨bo, 0, none⟩) h]

/-- What rounds keep that turn boxes bo, ba, block lp, and the row in bo. -/
structure KpF (bo ba lp : Nat) (A B : World) : Prop where
  size : A.heap.size ≤ B.heap.size
  old : ∀ k, k < A.heap.size → k ≠ bo → k ≠ ba → k ≠ lp → outB bo A ≠ some k → B.heap[k]? = A.heap[k]?
  own : outB bo B = outB bo A ∨ ∃ g, outB bo B = some g ∧ A.heap.size ≤ g
  lt : (∀ g, outB bo A = some g → g < A.heap.size) → ∀ g, outB bo B = some g → g < B.heap.size
section
variable {bo ba lp : Nat}
theorem KpF.trans {A B C : World} (h : KpF bo ba lp A B) (k : KpF bo ba lp B C) : KpF bo ba lp A C := by
  refine ⟨Nat.le_trans h.size k.size, fun i hi h1 h2 h3 h4 => ?_, ?_, fun h0 => k.lt (h.lt h0)⟩
  · refine (k.old i (by have := h.size; omega) h1 h2 h3 ?_).trans (h.old i hi h1 h2 h3 h4)
    rcases h.own with e | ⟨g, e, hg⟩
    · rw [e]; exact h4
    · rw [e]; intro h5; cases h5; omega
  · rcases k.own with e | ⟨g, e, hg⟩
    · rw [e]; exact h.own
    · exact .inr ⟨g, e, Nat.le_trans h.size hg⟩
theorem KpF.put {W : World} (o : Obj) (h : bo ≠ lp) : KpF bo ba lp W (W.putObj lp o) := by
  have e : outB bo (W.putObj lp o) = outB bo W := outB_same (World.putObj_heap_other (by omega))
  exact ⟨by simp, fun k _ _ _ h3 _ => World.putObj_heap_other (by omega), .inl e, fun h0 g hg => by rw [e] at hg; have := h0 g hg; simpa using this⟩
/-- Steps that turn none but blocks from w's size on. -/
theorem KpF.grown {w A B : World} {row : Option Nat} (h : KpF bo ba lp w A) (hg : A.grownBy B row) (hr : ∀ r, row = some r → w.heap.size ≤ r) (hb : bo < w.heap.size) : KpF bo ba lp w B := by
  have hs := hg.size
  have h0 := h.size
  have hk : ∀ k, k < w.heap.size → B.heap[k]? = A.heap[k]? := fun k hk => hg.block k (by omega) (fun e => by have := hr k e.symm; omega)
  have e : outB bo B = outB bo A := outB_same (hk bo hb)
  refine ⟨by omega, fun k h1 h2 h3 h4 h5 => (hk k h1).trans (h.old k h1 h2 h3 h4 h5), by rw [e]; exact h.own, fun h1 g h2 => ?_⟩
  rw [e] at h2
  have := h.lt h1 g h2
  omega
theorem KpF.refl {A : World} (hn : ∀ g, outB bo A = some g → g < A.heap.size) : KpF bo ba lp A A := ⟨Nat.le_refl _, fun _ _ _ _ _ _ => rfl, .inl rfl, fun _ => hn⟩
end
theorem grown_of_belowF {A B : World} (h : Below A.heap.size A B) : A.grownBy B none := ⟨h.os, h.tape, h.output, h.size, fun k hk _ => h.block k hk⟩
/-- The first blocks are as they were. -/
def KpO (n₀ : Nat) (A B : World) : Prop := ∀ k, k < n₀ → B.heap[k]? = A.heap[k]?
theorem KpF.first {bo ba lp n₀ : Nat} {w A B : World} (h : KpF bo ba lp A B) (h1 : n₀ ≤ bo) (h2 : n₀ ≤ ba) (h3 : n₀ ≤ lp) (h4 : outB bo A = none) (h5 : n₀ ≤ A.heap.size) (h0 : KpO n₀ w A) : KpO n₀ w B :=
  fun k hk => (h.old k (by omega) (by omega) (by omega) (by omega) (by rw [h4]; simp)).trans (h0 k hk)
theorem KpO.str {n₀ : Nat} {w W : World} (h : KpO n₀ w W) (hs : w.heap.size = n₀) {v : Value} {xs : List (List UInt8)} (hr : StrRow w v xs) : StrRow W v xs := by
  obtain ⟨a, c, hv, hc, hm, hx⟩ := hr
  refine ⟨a, c, hv, hc, hm, hx.imp id fun ⟨b, o, ha, hx⟩ => ⟨b, o, ha, fun j x hj => ?_⟩⟩
  have h1 := hx j x hj
  exact (World.cell?_of_block (a := ⟨b, o + j, none⟩) (h b (by have := lt_of_cell h1; omega))).trans h1
theorem KpO.snp {n₀ : Nat} {w W : World} (h : KpO n₀ w W) (hs : w.heap.size = n₀) {v : Value} {xs : List Snp} (hr : SnpRow w v xs) : SnpRow W v xs := by
  obtain ⟨a, c, hv, hc, hm, hx⟩ := hr
  refine ⟨a, c, hv, hc, hm, hx.imp id fun ⟨b, o, ha, hx⟩ => ⟨b, o, ha, fun j y hj i u hu => ?_⟩⟩
  have h1 := hx j y hj i u hu
  exact (World.cell?_of_block (a := ⟨b, _, none⟩) (h b (by have := lt_of_cell h1; omega))).trans h1
theorem own_block {w w' : World} {B e K n : Nat} {v : Value} {xs : List Value} (h : w.ownsRow B e K v n xs) (hk : ∀ g, v.ownBlock = some g → w'.heap[g]? = w.heap[g]?) : w'.ownsRow B e K v n xs := by
  obtain ⟨h1, h2⟩ := h
  refine ⟨h1, ?_⟩
  rcases h2 with h2 | ⟨g, cap, cur, rfl, hb, hg, h3⟩
  · exact .inl h2
  · exact .inr ⟨g, cap, cur, rfl, hb, (hk g rfl).trans hg, h3⟩
theorem BMap.block {w w' : World} {b n : Nat} {f : List UInt8 → Bool} (h : BMap w b n f) (hb : w'.heap[b]? = w.heap[b]?) : BMap w' b n f := by
  obtain ⟨D, ⟨es, clock, h1, h2⟩, h3⟩ := h
  exact ⟨D, ⟨es, clock, hb.trans h1, h2⟩, h3⟩
/-- A row of the call's own is no map. -/
theorem BMap.apart {w : World} {b n : Nat} {f : List UInt8 → Bool} (h : BMap w b n f) {B e K m : Nat} {v : Value} {xs : List Value} (hr : w.ownsRow B e K v m xs) : v.ownBlock ≠ some b := by
  obtain ⟨D, ⟨es, clock, h1, h2⟩, h3⟩ := h
  intro hv
  rcases hr.2 with ⟨rfl, _⟩ | ⟨g, cap, cur, rfl, hb, hg, _⟩
  · simp [Value.ownBlock] at hv
  · simp [Value.ownBlock] at hv
    subst hv
    rw [h1] at hg; cases hg
theorem BMap.le {w : World} {b n m : Nat} {f : List UInt8 → Bool} (h : BMap w b n f) (hm : n ≤ m) : BMap w b m f := by
  obtain ⟨D, ⟨es, clock, h1, h2, h3, h4⟩, h5⟩ := h
  exact ⟨D, ⟨es, clock, h1, h2, Nat.le_trans h3 hm, h4⟩, h5⟩
theorem BMap.as {w : World} {b n : Nat} {f g : List UInt8 → Bool} (h : BMap w b n f) (hfg : ∀ k, f k = g k) : BMap w b n g := by
  obtain rfl : f = g := funext hfg
  exact h

/-- The iterator's own behind a round. -/
theorem keepF {bo ba lp N mb m n e : Nat} {wr w4 w5 : World} {qv : Value} {f : List UInt8 → Bool} {xs : List Value} (hb : Below wr.heap.size wr w4) (hk : KpF bo ba lp w4 w5) (hbo : bo < N) (hba : ba < N) (hlp : lp < N) (hmb : N ≤ mb) (hbw : bo < wr.heap.size)
    (hmap : BMap wr mb m f) (hown : wr.ownsRow N e 1 qv n xs) (hsep : ∀ g, outB bo wr = some g → g ≠ mb ∧ qv.ownBlock ≠ some g) :
    BMap w5 mb m f ∧ w5.ownsRow N e 1 qv n xs ∧ (∀ g, outB bo w5 = some g → g ≠ mb ∧ qv.ownBlock ≠ some g) := by
  have ho : outB bo w4 = outB bo wr := outB_same (hb.block bo hbw)
  have hs := hb.size
  have hml := hmap.lt
  have hql := hown.lt
  refine ⟨hmap.block ((hk.old mb (by omega) (by omega) (by omega) (by omega) ?_).trans (hb.block mb hml)), own_block hown (fun g hg => (hk.old g (by have := (hql g hg).2; omega) (by have := (hql g hg).1; omega) (by have := (hql g hg).1; omega) (by have := (hql g hg).1; omega) ?_).trans (hb.block g (hql g hg).2)), fun g hg => ?_⟩
  · rw [ho]; intro h; exact (hsep _ h).1 rfl
  · rw [ho]; intro h; exact (hsep _ h).2 hg
  · rcases hk.own with h | ⟨g', h, hg'⟩
    · rw [h, ho] at hg; exact hsep g hg
    · rw [h] at hg
      cases hg
      exact ⟨by omega, fun h2 => by have := (hql _ h2).2; omega⟩
theorem keepNew {bo ba lp N j : Nat} {wr w4 w5 : World} (hb : Below wr.heap.size wr w4) (hk : KpF bo ba lp w4 w5) (hbo : bo < N) (hba : ba < N) (hlp : lp < N) (hN : N ≤ wr.heap.size) (hlt : ∀ g, outB bo wr = some g → g < wr.heap.size)
    (h1 : wr.heap.size ≤ j) (h2 : j < w4.heap.size) : w5.heap[j]? = w4.heap[j]? := by
  refine hk.old j h2 (by omega) (by omega) (by omega) ?_
  rw [outB_same (hb.block bo (by omega))]
  intro h
  have := hlt _ h
  omega

/-- Behind an append in a fence: where the row lies. -/
theorem wpListIn_append_sep {F : Fence} {n' : Nat} {P : Program} (w : World) {ops : Array Oper} {rest : List Oper} {o : Oper} {a : Act} {Q : Exit → Act → World → Prop} (hgd : o.guard = none) (s x : Operand) (t : TypeId)
    (ho : o.op = .call { callee := .builtin .append, args := #[s, x], argTypes := #[t, t] })
    (base : Nat) (e : TypeId) (i : TypeInfo) (z : Value) (size bytes : Nat) (ht : P.underlying t = some (.slice e)) (hi : P.info? e = some i) (hz : i.zero = some z)
    (hsize : i.size = size) (hby : i.bytes = bytes) (hzs : z.cells.size = size) (hsz : 0 < size)
    (v : Value) (n : Nat) (xs : List Value) (hs : a.eval s = v) (hown : w.ownsRow base e size v n xs)
    (ad : Addr) (m c : Nat) (news : List Value) (hx : a.eval x = .slice (some ad) m c) (hl : news.length = m * size) (hnews : ∀ j u, news[j]? = some u → w.cell? (ad.add j) = some u) (h1 : ∀ u ∈ news, u.oneCell' = true)
    (h63 : n + m ≤ maxLen) (hbytes : (n + m) * bytes ≤ 140737488355328) (hbase : base ≤ w.heap.size) (hm : 0 < m)
    (h : ∀ v' w', w'.ownsRow base e size v' (n + m) (xs ++ news) → w.grownBy w' v.ownBlock → (v'.ownBlock = v.ownBlock ∨ v'.ownBlock = some w.heap.size) → wpListIn F n' P ops Q rest (a.put o.dst v') w') : wpListIn F n' P ops Q (o :: rest) a w := by
  refine wpListIn_plain hgd fun K hK => ?_
  obtain ⟨v', w', hr, h2, h3, h4⟩ := run_append_sep (P := P) w base t o.type e i z size bytes ht hi hz hsize hby hzs hsz v n xs hown ad m c news hl hnews h1 h63 hbytes hbase hm
  unfold Oper.wpIn
  refine ⟨?_, ?_⟩
  · simp [Oper.about, ho, resolve, Target.leads, Sem.run_pure]
  · rw [Oper.semAt_plain F _ _ (by rw [ho]; intro c hc'; cases hc')]
    simp [execOp, ho, resolve, invoke, builtin, hs, hx, hr, Result.andThen]
    exact hK _ _ (h v' w' h2 h3 h4)
end Go.Proofs.YtkejdbidomlonaaGreatDoor

namespace Go.Proofs.YtkejdbidomlonaaGreatDoor

theorem read_tot {s : List UInt8} (h : (readN s).2 = 0) : (readN s).1.parts.length + (readN s).1.ents.length ≤ 1084 := by
  have h1 := read_ok (s := s) (n := (readN s).1) (by rw [← h])
  obtain ⟨s1, s2, _⟩ := fit_sizes h1.1
  omega
theorem kids_bound {s : List UInt8} (h : (readN s).2 = 0) : (kidsN (readN s).1).length ≤ 1084 := by
  have h1 := read_ok (s := s) (n := (readN s).1) (by rw [← h])
  obtain ⟨s1, s2, _⟩ := fit_sizes h1.1
  have := kidsN_len (readN s).1
  omega
end Go.Proofs.YtkejdbidomlonaaGreatDoor
