/- A map from texts to bools that the call makes, in plain words. Few objects, of few bytes, that are fit: plain. What rounds keep of an iterator's, and an iterator of the rounds': a box whose row the rounds turn. In a round: an operation that needs no world may be taken first; an append by its law. No program in sight. Inside a fence, in a round, too: regions that draw their order, walked under a condition on the world that holds behind each operation. No program in sight. -/
import Derived.Test.YtbmdoekfbkpaeaaGreatDoorJPlain
import Derived.Maps.OwnOps
import Derived.Maps.Views
import Derived.StringKeys
import Derived.Test.YtbmdoekfbkpaeaaGreatDoorJKeysP
import Derived.Test.YtbmdoekfbkpaeaaGreatDoorJDir
import Derived.Test.YtbmdoekfbkpaeaaGreatDoorJPPut12
import Derived.Test.YtbmdoekfbkpaeaaGreatDoorJRowG
import Derived.Test.YtbmdoekfbkpaeaaGreatDoorJR11
namespace Go.Proofs.YtbmdoekfbkpaeaaGreatDoor
open Go.RowKit
open Go.Maps (Keyed)
open Go.WideMaps (keyOf_string_mk)

theorem keyStr : Keyed Tryz.prog 9 := Maps.string_keyed Tryz.underlying9
theorem zeroBool (w : World) : (zeroValue 4).run Tryz.prog w = .ok (.bool false) w := by kernel_rfl

/-- Block b is a map of at most n entries; at a key lies f of it. -/
def BMap (w : World) (b n : Nat) (f : List UInt8 → Bool) : Prop :=
  ∃ D : DataW Unit, w.ownsMap Tryz.prog 9 (plainElem Tryz.prog 4) b n D ∧ Maps.IsMap D ∧ ∀ key, D.atKey (.string key) (.lit (.bool false)) = .lit (.bool (f key))

theorem BMap.made (w : World) : BMap (w.alloc (.map #[] 0)) w.heap.size 0 (fun _ => false) :=
  ⟨_, World.ownsMap_made _ _ _ _, Maps.isMap_empty, fun _ => rfl⟩
theorem BMap.kept {w w' : World} {b n : Nat} {f : List UInt8 → Bool} (h : BMap w b n f) (hb : Below w.heap.size w w') : BMap w' b n f := by
  obtain ⟨D, h1, h2, h3⟩ := h
  exact ⟨D, h1.kept (⟨hb.os, hb.tape, hb.output, hb.size, fun k hk _ => hb.block k hk⟩ : w.grownBy w' none) (by simp), h2, h3⟩
theorem BMap.lt {w : World} {b n : Nat} {f : List UInt8 → Bool} (h : BMap w b n f) : b < w.heap.size := by
  obtain ⟨D, h1, _⟩ := h; exact h1.lt
set_option maxRecDepth 100000 in
theorem plainElem_bool_inv {v : Value} {x : Bool} {ps : List MemPlace} (h : plainElem (H := Unit) Tryz.prog 4 v = some (.lit (.bool x), ps)) : v = .bool x := by
  unfold plainElem at h
  rw [Tryz.underlying4] at h
  cases v <;> simp at h
  rw [h.1]
theorem BMap.look {w : World} {b n : Nat} {f : List UInt8 → Bool} (h : BMap w b n f) {T : TypeId} (ht : Tryz.prog.underlying T = some (.map 9 4)) {key : List UInt8} (hk : key.length ≤ maxLen) :
    (Instr.lookup T (.map (some b)) (S key) false).run Tryz.prog w = .ok (.bool (f key)) w := by
  obtain ⟨D, h1, _, h3⟩ := h
  obtain ⟨v, ps, hrun, hv⟩ := h1.lookup keyStr ht (zeroBool w) (plainElem_bool Tryz.underlying4 false) (keyOf_string_mk Tryz.underlying9 (s := ⟨key.toArray⟩) hk)
  rw [h3] at hv
  rw [hrun, plainElem_bool_inv hv]
theorem BMap.update {w : World} {b n : Nat} {f : List UInt8 → Bool} (h : BMap w b n f) {T : TypeId} (ht : Tryz.prog.underlying T = some (.map 9 4)) (hn : n < maxLen) {key : List UInt8} (hk : key.length ≤ maxLen) (x : Bool) :
    ∃ w', (Instr.mapUpdate T (.map (some b)) (S key) (.bool x)).run Tryz.prog w = .ok () w' ∧ BMap w' b (n + 1) (fun k => if k = key then x else f k) ∧ w.grownBy w' (some b) := by
  obtain ⟨D, h1, h2, h3⟩ := h
  obtain ⟨w', hrun, hown, hg⟩ := h1.update keyStr ht hn (keyOf_string_mk Tryz.underlying9 (s := ⟨key.toArray⟩) hk) (plainElem_bool Tryz.underlying4 x)
  refine ⟨w', hrun, ⟨_, hown, h2.put _ _, fun k => ?_⟩, hg⟩
  show (D.put (Lit.string key) (DataW.lit (Lit.bool x))).atKey (Lit.string k) (DataW.lit (Lit.bool false)) = DataW.lit (Lit.bool (if k = key then x else f k))
  by_cases hkk : k = key
  · subst hkk
    rw [if_pos rfl]
    exact Maps.atKey_put_same h2 (by trivial) _ _
  · rw [if_neg hkk, Maps.atKey_put_other (by intro e; exact hkk (by simpa using e)), h3]
theorem wpList_bmap_update {P : Program} (hP : P = Tryz.prog) (w : World) {ops : Array Oper} {rest : List Oper} {o : Oper} {a : Act} {Q : Exit → Act → World → Prop}
    (hg : o.guard = none) (m x v : Operand) (t : TypeId) (hop : o.op = Op.mapUpdate t m x v ∨ o.op = Op.insert t m x v) (ht : Tryz.prog.underlying t = some (.map 9 4))
    {b n : Nat} {f : List UInt8 → Bool} (h : BMap w b n f) (hn : n < maxLen) (key : List UInt8) (hk : key.length ≤ maxLen) (y : Bool) (hm : a.eval m = .map (some b)) (hx : a.eval x = S key) (hv : a.eval v = .bool y)
    (hK : ∀ w', BMap w' b (n + 1) (fun k => if k = key then y else f k) → w.grownBy w' (some b) → wpList P ops Q rest (a.put o.dst undef) w') : wpList P ops Q (o :: rest) a w := by
  subst hP
  refine wpList_plain hg fun K' hK' => ?_
  obtain ⟨w', hrun, r1, r2⟩ := h.update ht hn hk y
  unfold Oper.wp
  rcases hop with hop | hop
  · simp [execOp, hop, hm, hx, hv, hrun, Result.andThen]
    exact hK' _ _ (hK w' r1 r2)
  · simp [execOp, hop, hm, hx, hv, hrun, Result.andThen]
    exact hK' _ _ (hK w' r1 r2)
end Go.Proofs.YtbmdoekfbkpaeaaGreatDoor

namespace Go.Proofs.YtbmdoekfbkpaeaaGreatDoor
open Go.RowKit

structure SmallO (l : List Snp) : Prop where
  len : l.length ≤ 120
  raw : ∀ x ∈ l, x.2.length ≤ 20000
  fit : fit5 (namesR l) = true
  tot : rawsL l ≤ 20000
def SmallPost (l : List Snp) (w : World) (e : Ending) (w' : World) : Prop := ∃ b : Bool, e = .returned (.bool b) ∧ (b = true → SmallO l) ∧ Below w.heap.size w w'
end Go.Proofs.YtbmdoekfbkpaeaaGreatDoor

namespace Go.Proofs.YtbmdoekfbkpaeaaGreatDoor
open Go.RowKit

/-- The block of the row in box bo. -/
def outB (bo : Nat) (A : World) : Option Nat := (A.cell? ⟨bo, 0, none⟩).bind Value.ownBlock
theorem outB_box {bo t : Nat} {A : World} {v : Value} (h : Boxed A bo t v) : outB bo A = v.ownBlock := by
  unfold outB; rw [h.cell]; rfl
theorem outB_same {bo : Nat} {A B : World} (h : B.heap[bo]? = A.heap[bo]?) : outB bo B = outB bo A := by
  unfold outB; rw [World.cell?_of_block (a := ⟨bo, 0, none⟩) h]

/-- What rounds keep that turn boxes bo, ba, block lp, and the row in bo. -/
structure KpF (bo ba lp : Nat) (A B : World) : Prop where
  size : A.heap.size ≤ B.heap.size
  old : ∀ k, k < A.heap.size → k ≠ bo → k ≠ ba → k ≠ lp → outB bo A ≠ some k → B.heap[k]? = A.heap[k]?
  own : outB bo B = outB bo A ∨ ∃ g, outB bo B = some g ∧ A.heap.size ≤ g
  lt : (∀ g, outB bo A = some g → g < A.heap.size) → ∀ g, outB bo B = some g → g < B.heap.size
section
variable {bo ba lp : Nat}
theorem KpF.trans {A B C : World} (h : KpF bo ba lp A B) (k : KpF bo ba lp B C) : KpF bo ba lp A C := by
  refine ⟨Nat.le_trans h.size k.size, fun i hi h1 h2 h3 h4 => ?_, ?_, fun h0 => k.lt (h.lt h0)⟩
  · refine (k.old i (by have := h.size; omega) h1 h2 h3 ?_).trans (h.old i hi h1 h2 h3 h4)
    rcases h.own with e | ⟨g, e, hg⟩
    · rw [e]; exact h4
    · rw [e]; intro h5; cases h5; omega
  · rcases k.own with e | ⟨g, e, hg⟩
    · rw [e]; exact h.own
    · exact .inr ⟨g, e, Nat.le_trans h.size hg⟩
theorem KpF.put {W : World} (o : Obj) (h : bo ≠ lp) : KpF bo ba lp W (W.putObj lp o) := by
  have e : outB bo (W.putObj lp o) = outB bo W := outB_same (World.putObj_heap_other (by omega))
  exact ⟨by simp, fun k _ _ _ h3 _ => World.putObj_heap_other (by omega), .inl e, fun h0 g hg => by rw [e] at hg; have := h0 g hg; simpa using this⟩
/-- Steps that turn none but blocks from w's size on. -/
theorem KpF.grown {w A B : World} {row : Option Nat} (h : KpF bo ba lp w A) (hg : A.grownBy B row) (hr : ∀ r, row = some r → w.heap.size ≤ r) (hb : bo < w.heap.size) : KpF bo ba lp w B := by
  have hs := hg.size
  have h0 := h.size
  have hk : ∀ k, k < w.heap.size → B.heap[k]? = A.heap[k]? := fun k hk => hg.block k (by omega) (fun e => by have := hr k e.symm; omega)
  have e : outB bo B = outB bo A := outB_same (hk bo hb)
  refine ⟨by omega, fun k h1 h2 h3 h4 h5 => (hk k h1).trans (h.old k h1 h2 h3 h4 h5), by rw [e]; exact h.own, fun h1 g h2 => ?_⟩
  rw [e] at h2
  have := h.lt h1 g h2
  omega
theorem KpF.refl {A : World} (hn : ∀ g, outB bo A = some g → g < A.heap.size) : KpF bo ba lp A A := ⟨Nat.le_refl _, fun _ _ _ _ _ _ => rfl, .inl rfl, fun _ => hn⟩
end
theorem grown_of_belowF {A B : World} (h : Below A.heap.size A B) : A.grownBy B none := ⟨h.os, h.tape, h.output, h.size, fun k hk _ => h.block k hk⟩
/-- The first blocks are as they were. -/
def KpO (n₀ : Nat) (A B : World) : Prop := ∀ k, k < n₀ → B.heap[k]? = A.heap[k]?
theorem KpF.first {bo ba lp n₀ : Nat} {w A B : World} (h : KpF bo ba lp A B) (h1 : n₀ ≤ bo) (h2 : n₀ ≤ ba) (h3 : n₀ ≤ lp) (h4 : outB bo A = none) (h5 : n₀ ≤ A.heap.size) (h0 : KpO n₀ w A) : KpO n₀ w B :=
  fun k hk => (h.old k (by omega) (by omega) (by omega) (by omega) (by rw [h4]; simp)).trans (h0 k hk)
theorem KpO.str {n₀ : Nat} {w W : World} (h : KpO n₀ w W) (hs : w.heap.size = n₀) {v : Value} {xs : List (List UInt8)} (hr : StrRow w v xs) : StrRow W v xs := by
  obtain ⟨a, c, hv, hc, hm, hx⟩ := hr
  refine ⟨a, c, hv, hc, hm, hx.imp id fun ⟨b, o, ha, hx⟩ => ⟨b, o, ha, fun j x hj => ?_⟩⟩
  have h1 := hx j x hj
  exact (World.cell?_of_block (a := ⟨b, o + j, none⟩) (h b (by have := lt_of_cell h1; omega))).trans h1
theorem KpO.snp {n₀ : Nat} {w W : World} (h : KpO n₀ w W) (hs : w.heap.size = n₀) {v : Value} {xs : List Snp} (hr : SnpRow w v xs) : SnpRow W v xs := by
  obtain ⟨a, c, hv, hc, hm, hx⟩ := hr
  refine ⟨a, c, hv, hc, hm, hx.imp id fun ⟨b, o, ha, hx⟩ => ⟨b, o, ha, fun j y hj i u hu => ?_⟩⟩
  have h1 := hx j y hj i u hu
  exact (World.cell?_of_block (a := ⟨b, _, none⟩) (h b (by have := lt_of_cell h1; omega))).trans h1
theorem own_block {w w' : World} {B e K n : Nat} {v : Value} {xs : List Value} (h : w.ownsRow B e K v n xs) (hk : ∀ g, v.ownBlock = some g → w'.heap[g]? = w.heap[g]?) : w'.ownsRow B e K v n xs := by
  obtain ⟨h1, h2⟩ := h
  refine ⟨h1, ?_⟩
  rcases h2 with h2 | ⟨g, cap, cur, rfl, hb, hg, h3⟩
  · exact .inl h2
  · exact .inr ⟨g, cap, cur, rfl, hb, (hk g rfl).trans hg, h3⟩
theorem BMap.block {w w' : World} {b n : Nat} {f : List UInt8 → Bool} (h : BMap w b n f) (hb : w'.heap[b]? = w.heap[b]?) : BMap w' b n f := by
  obtain ⟨D, ⟨es, clock, h1, h2⟩, h3⟩ := h
  exact ⟨D, ⟨es, clock, hb.trans h1, h2⟩, h3⟩
/-- A row of the call's own is no map. -/
theorem BMap.apart {w : World} {b n : Nat} {f : List UInt8 → Bool} (h : BMap w b n f) {B e K m : Nat} {v : Value} {xs : List Value} (hr : w.ownsRow B e K v m xs) : v.ownBlock ≠ some b := by
  obtain ⟨D, ⟨es, clock, h1, h2⟩, h3⟩ := h
  intro hv
  rcases hr.2 with ⟨rfl, _⟩ | ⟨g, cap, cur, rfl, hb, hg, _⟩
  · simp [Value.ownBlock] at hv
  · simp [Value.ownBlock] at hv
    subst hv
    rw [h1] at hg; cases hg
theorem BMap.le {w : World} {b n m : Nat} {f : List UInt8 → Bool} (h : BMap w b n f) (hm : n ≤ m) : BMap w b m f := by
  obtain ⟨D, ⟨es, clock, h1, h2, h3, h4⟩, h5⟩ := h
  exact ⟨D, ⟨es, clock, h1, h2, Nat.le_trans h3 hm, h4⟩, h5⟩
theorem BMap.as {w : World} {b n : Nat} {f g : List UInt8 → Bool} (h : BMap w b n f) (hfg : ∀ k, f k = g k) : BMap w b n g := by
  obtain rfl : f = g := funext hfg
  exact h

/-- The iterator's own behind a round. -/
theorem keepF {bo ba lp N mb m n e : Nat} {wr w4 w5 : World} {qv : Value} {f : List UInt8 → Bool} {xs : List Value} (hb : Below wr.heap.size wr w4) (hk : KpF bo ba lp w4 w5) (hbo : bo < N) (hba : ba < N) (hlp : lp < N) (hmb : N ≤ mb) (hbw : bo < wr.heap.size)
    (hmap : BMap wr mb m f) (hown : wr.ownsRow N e 1 qv n xs) (hsep : ∀ g, outB bo wr = some g → g ≠ mb ∧ qv.ownBlock ≠ some g) :
    BMap w5 mb m f ∧ w5.ownsRow N e 1 qv n xs ∧ (∀ g, outB bo w5 = some g → g ≠ mb ∧ qv.ownBlock ≠ some g) := by
  have ho : outB bo w4 = outB bo wr := outB_same (hb.block bo hbw)
  have hs := hb.size
  have hml := hmap.lt
  have hql := hown.lt
  refine ⟨hmap.block ((hk.old mb (by omega) (by omega) (by omega) (by omega) ?_).trans (hb.block mb hml)), own_block hown (fun g hg => (hk.old g (by have := (hql g hg).2; omega) (by have := (hql g hg).1; omega) (by have := (hql g hg).1; omega) (by have := (hql g hg).1; omega) ?_).trans (hb.block g (hql g hg).2)), fun g hg => ?_⟩
  · rw [ho]; intro h; exact (hsep _ h).1 rfl
  · rw [ho]; intro h; exact (hsep _ h).2 hg
  · rcases hk.own with h | ⟨g', h, hg'⟩
    · rw [h, ho] at hg; exact hsep g hg
    · rw [h] at hg
      cases hg
      exact ⟨by omega, fun h2 => by have := (hql _ h2).2; omega⟩
theorem keepNew {bo ba lp N j : Nat} {wr w4 w5 : World} (hb : Below wr.heap.size wr w4) (hk : KpF bo ba lp w4 w5) (hbo : bo < N) (hba : ba < N) (hlp : lp < N) (hN : N ≤ wr.heap.size) (hlt : ∀ g, outB bo wr = some g → g < wr.heap.size)
    (h1 : wr.heap.size ≤ j) (h2 : j < w4.heap.size) : w5.heap[j]? = w4.heap[j]? := by
  refine hk.old j h2 (by omega) (by omega) (by omega) ?_
  rw [outB_same (hb.block bo (by omega))]
  intro h
  have := hlt _ h
  omega

/-- Behind an append in a fence: where the row lies. -/
theorem wpListIn_append_sep {F : Fence} {n' : Nat} {P : Program} (w : World) {ops : Array Oper} {rest : List Oper} {o : Oper} {a : Act} {Q : Exit → Act → World → Prop} (hgd : o.guard = none) (s x : Operand) (t : TypeId)
    (ho : o.op = .call { callee := .builtin .append, args := #[s, x], argTypes := #[t, t] })
    (base : Nat) (e : TypeId) (i : TypeInfo) (z : Value) (size bytes : Nat) (ht : P.underlying t = some (.slice e)) (hi : P.info? e = some i) (hz : i.zero = some z)
    (hsize : i.size = size) (hby : i.bytes = bytes) (hzs : z.cells.size = size) (hsz : 0 < size)
    (v : Value) (n : Nat) (xs : List Value) (hs : a.eval s = v) (hown : w.ownsRow base e size v n xs)
    (ad : Addr) (m c : Nat) (news : List Value) (hx : a.eval x = .slice (some ad) m c) (hl : news.length = m * size) (hnews : ∀ j u, news[j]? = some u → w.cell? (ad.add j) = some u) (h1 : ∀ u ∈ news, u.oneCell' = true)
    (h63 : n + m ≤ maxLen) (hbytes : (n + m) * bytes ≤ 140737488355328) (hbase : base ≤ w.heap.size) (hm : 0 < m)
    (h : ∀ v' w', w'.ownsRow base e size v' (n + m) (xs ++ news) → w.grownBy w' v.ownBlock → (v'.ownBlock = v.ownBlock ∨ v'.ownBlock = some w.heap.size) → wpListIn F n' P ops Q rest (a.put o.dst v') w') : wpListIn F n' P ops Q (o :: rest) a w := by
  refine wpListIn_plain hgd fun K hK => ?_
  obtain ⟨v', w', hr, h2, h3, h4⟩ := run_append_sep (P := P) w base t o.type e i z size bytes ht hi hz hsize hby hzs hsz v n xs hown ad m c news hl hnews h1 h63 hbytes hbase hm
  unfold Oper.wpIn
  refine ⟨?_, ?_⟩
  · simp [Oper.about, ho, resolve, Target.leads, Sem.run_pure]
  · rw [Oper.semAt_plain F _ _ (by rw [ho]; intro c hc'; cases hc')]
    simp [execOp, ho, resolve, invoke, builtin, hs, hx, hr, Result.andThen]
    exact hK _ _ (h v' w' h2 h3 h4)
end Go.Proofs.YtbmdoekfbkpaeaaGreatDoor

namespace Go.Proofs.YtbmdoekfbkpaeaaGreatDoor
open Go Go.RowKit

section
variable {F : Fence} {n : Nat} {P : Program} {ops : Array Oper} {md : Region.Mode} {Q : Exit → Act → World → Prop}

theorem semAt_free {o : Oper} (h : ∀ c, o.op ≠ .defer c) (ρ : Operand → Value) : o.semAt F.round ρ = execOp ρ o := Oper.semAt_plain F ρ o h
theorem yields_op {i : Nat} {o : Oper} {v : Value} {a : Act} (hd : ∀ c, o.op ≠ .defer c) (hi : ops[i]? = some o) (hy : YieldsFenced P ops o v a)
    {K : Act → World → Prop} {w : World} (h : K (a.put o.dst v) w) : wpOpIn F n P ops Q i K a w := by
  unfold Go.wpOpIn
  simp only [hi]
  have hab : ∀ f, o.about P w a.eval = some f → F.fn f := fun f hf => by rw [hy.2 w] at hf; cases hf
  rcases hy.1 with ⟨hw, hv⟩ | ⟨hw, rfl⟩
  · simp only [hw, if_true, Oper.wpIn, semAt_free hd, hv w, Oper.uponIn]; exact ⟨hab, h⟩
  · simp only [hw, Bool.false_eq_true, if_false]; exact ⟨hab, h⟩
theorem op_put {j : Nat} {oi oj : Oper} {v : Value} (hdj : ∀ c, oj.op ≠ .defer c) (hj : ops[j]? = some oj) (hap : oi.apart ops oj = true)
    (hsi : ∀ cs b, oi.op ≠ .select cs b) (hsj : ∀ cs b, oj.op ≠ .select cs b)
    (hQ : ∀ c a w, Q (.panic c) (a.put oi.dst v) w → Q (.panic c) a w) {K : Act → World → Prop} {a : Act} {w : World}
    (hy : YieldsFenced P ops oi v a) (h : wpOpIn F n P ops Q j K (a.put oi.dst v) w) :
    wpOpIn F n P ops Q j (fun a' w' => YieldsFenced P ops oi v a' ∧ K (a'.put oi.dst v) w') a w := by
  obtain ⟨h1, h2, h3⟩ := Oper.apart_spec hap
  have keep : ∀ (a : Act), YieldsFenced P ops oi v a → ∀ u, YieldsFenced P ops oi v (a.put oj.dst u) := fun a hy u =>
    hy.of_same (execOp_put oi hsi a oj.dst u h3) (wanted_put oi a oj.dst u h3) (fun w => about_put oi w a oj.dst u h3)
  have keepD : ∀ d, YieldsFenced P ops oi v { a with defers := d :: a.defers } := fun d => hy.of_same rfl rfl (fun _ => rfl)
  have back : ∀ (u : Value) (w' : World), K ((a.put oi.dst v).put oj.dst u) w' → K ((a.put oj.dst u).put oi.dst v) w' := fun u w' hk => by
    rw [← Act.put_comm a v u h2]; exact hk
  unfold wpOpIn at *
  simp only [hj] at *
  rw [wanted_put oj a oi.dst v h1, about_put oj w a oi.dst v h1] at h
  split
  · rename_i hw
    simp only [hw, if_true] at h
    unfold Oper.wpIn at *
    rw [about_put oj w a oi.dst v h1, semAt_free hdj, execOp_put oj hsj a oi.dst v h1] at h
    refine ⟨h.1, ?_⟩
    replace h := h.2
    rw [semAt_free hdj]
    generalize (execOp a.eval oj).run P w = r at *
    cases r with
    | halt x w' =>
      cases x <;> simp only [Oper.uponIn] at h ⊢
      exact hQ _ _ _ h
    | ok x w' =>
      cases x <;> simp only [Oper.uponIn] at h ⊢
      case value u => exact ⟨keep a hy u, back u _ h⟩
      case skip => exact ⟨keep a hy _, back undef _ h⟩
      case defer d =>
        refine ⟨keep _ (keepD d) _, ?_⟩
        rw [← Act.put_comm _ v undef h2, ← Act.put_defers]
        exact h
      case enter f args =>
        refine ⟨h.1, CallsIn.mono h.2 fun e w'' he => ?_⟩
        cases e with
        | returned u => exact ⟨keep a hy u, back u _ he⟩
        | panicked c => exact hQ _ _ _ he
        | outgrown => exact he
      case row row args => exact ⟨h.1, RowsIn.mono h.2 fun u w'' he => ⟨keep a hy u, back u _ he⟩⟩
      case round l f tmps assign body =>
        refine ⟨h.1, RoundIn.mono h.2 fun e w'' he => ?_⟩
        cases e with
        | returned u => exact ⟨keep a hy u, back u _ he⟩
        | panicked c => exact hQ _ _ _ he
        | outgrown => exact he
  · rename_i hw
    simp only [hw] at h
    exact ⟨h.1, keep a hy _, back undef _ h.2⟩
theorem any_first {i : Nat} {oi : Oper} {v : Value} (hd : ∀ (j : Nat) (o : Oper), ops[j]? = some o → ∀ c, o.op ≠ .defer c) (hi : ops[i]? = some oi) (hsel : ∀ (j : Nat) (o : Oper) cs b, ops[j]? = some o → o.op ≠ .select cs b)
    (hQ : ∀ c a w, Q (.panic c) (a.put oi.dst v) w → Q (.panic c) a w) :
    ∀ (fuel : Nat) (listed : Array Bool) (a : Act) (w : World),
      (∀ j oj, ops[j]? = some oj → j ≠ i → listed.getD j true = false → (∀ e ∈ oj.after, Region.binds md e = true → e.on ≠ i) → oi.apart ops oj = true) →
      i ∈ Region.ready md ops listed → YieldsFenced P ops oi v a →
      wpAnyIn F n P md ops Q fuel (listed.setIfInBounds i true) (a.put oi.dst v) w → wpAnyIn F n P md ops Q (fuel + 1) listed a w := by
  intro fuel
  induction fuel with
  | zero =>
    intro listed a w _ hr hy H
    refine ⟨fun h => (by rw [h] at hr; cases hr), fun j hj => ?_⟩
    by_cases hji : j = i
    · subst hji; exact yields_op (hd _ _ hi) hi hy H
    · have := ready_mono hj hji
      rw [H.1] at this
      cases this
  | succ fuel ih =>
    intro listed a w hfree hr hy H
    refine ⟨fun h => (by rw [h] at hr; cases hr), fun j hj => ?_⟩
    by_cases hji : j = i
    · subst hji; exact yields_op (hd _ _ hi) hi hy H
    · have h1 := H.2 j (ready_mono hj hji)
      obtain ⟨hjun, oj, hoj, hall⟩ := mem_ready.1 hj
      have hnot : ∀ e ∈ oj.after, Region.binds md e = true → e.on ≠ i := fun e he hb heq => by
        have h1 := hall e he hb
        have h0 := (mem_ready.1 hr).1
        rw [heq] at h1
        rcases Nat.lt_or_ge i listed.size with h' | h'
        · simp [h'] at h0 h1; rw [h0] at h1; cases h1
        · simp [Array.getElem?_eq_none h'] at h1
      have h2 := op_put (hd _ _ hoj) hoj (hfree j oj hoj hji hjun hnot) (fun cs b => hsel i oi cs b hi) (fun cs b => hsel j oj cs b hoj) hQ hy h1
      have hfree' : ∀ k ok, ops[k]? = some ok → k ≠ i → (listed.setIfInBounds j true).getD k true = false →
          (∀ e ∈ ok.after, Region.binds md e = true → e.on ≠ i) → oi.apart ops ok = true := fun k ok hk hki hun hno => by
        refine hfree k ok hk hki ?_ hno
        by_cases hjk : j = k
        · subst hjk; exact hjun
        · rw [getD_set_ne true hjk] at hun; exact hun
      refine wpOpIn_mono (fun a' w' h3 => ih (listed.setIfInBounds j true) a' w' hfree' (ready_mono hr (Ne.symm hji)) h3.1 ?_) h2
      rw [Array.setIfInBounds_comm _ _ hji]
      exact h3.2
theorem any_take {i : Nat} {oi : Oper} {v : Value} {fuel : Nat} {l : List Oper} {listed : Array Bool} {a : Act} {w : World} (hd : noDefer l = true) (hi : l.toArray[i]? = some oi)
    (hs : Region.noSelect l.toArray = true) (hf : Region.free md l.toArray listed i = true) (hr : (Region.ready md l.toArray listed).contains i = true)
    (hQ : ∀ c a w, Q (.panic c) (a.put oi.dst v) w → Q (.panic c) a w) (hy : YieldsFenced P l.toArray oi v a)
    (h : wpAnyIn F n P md l.toArray Q fuel (listed.setIfInBounds i true) (a.put oi.dst v) w) : wpAnyIn F n P md l.toArray Q (fuel + 1) listed a w :=
  any_first (noDefer_spec hd) hi (Region.noSelect_spec hs) hQ fuel listed a w (Region.free_spec hi hf) (by simpa using hr) hy h

/-- An append, as one operation. -/
theorem op_append_sep (w : World) {o : Oper} {a : Act} {K : Act → World → Prop} (s x : Operand) (t : TypeId)
    (ho : o.op = .call { callee := .builtin .append, args := #[s, x], argTypes := #[t, t] })
    (base : Nat) (e : TypeId) (i : TypeInfo) (z : Value) (size bytes : Nat) (ht : P.underlying t = some (.slice e)) (hi : P.info? e = some i) (hz : i.zero = some z)
    (hsize : i.size = size) (hby : i.bytes = bytes) (hzs : z.cells.size = size) (hsz : 0 < size)
    (v : Value) (n' : Nat) (xs : List Value) (hs : a.eval s = v) (hown : w.ownsRow base e size v n' xs)
    (ad : Addr) (m c : Nat) (news : List Value) (hx : a.eval x = .slice (some ad) m c) (hl : news.length = m * size) (hnews : ∀ j u, news[j]? = some u → w.cell? (ad.add j) = some u) (h1 : ∀ u ∈ news, u.oneCell' = true)
    (h63 : n' + m ≤ maxLen) (hbytes : (n' + m) * bytes ≤ 140737488355328) (hbase : base ≤ w.heap.size) (hm : 0 < m)
    (h : ∀ v' w', w'.ownsRow base e size v' (n' + m) (xs ++ news) → w.grownBy w' v.ownBlock → (v'.ownBlock = v.ownBlock ∨ v'.ownBlock = some w.heap.size) → K (a.put o.dst v') w') : o.wpIn F n P a w K Q := by
  obtain ⟨v', w', hr, h2, h3, h4⟩ := run_append_sep (P := P) w base t o.type e i z size bytes ht hi hz hsize hby hzs hsz v n' xs hown ad m c news hl hnews h1 h63 hbytes hbase hm
  unfold Oper.wpIn
  refine ⟨?_, ?_⟩
  · simp [Oper.about, ho, resolve, Target.leads, Sem.run_pure]
  · rw [Oper.semAt_plain F _ _ (by rw [ho]; intro c hc'; cases hc')]
    simp [execOp, ho, resolve, invoke, builtin, hs, hx, hr, Result.andThen]
    exact h v' w' h2 h3 h4
end
end Go.Proofs.YtbmdoekfbkpaeaaGreatDoor

namespace Go.Proofs.YtbmdoekfbkpaeaaGreatDoor
open Go Go.RowKit

section
variable {F : Fence} {n : Nat} {P : Program} {ops : Array Oper} {md : Region.Mode} {Q : Exit → Act → World → Prop} {S : World → Prop}

/-- In every world that meets S an operation leaves v, and does nothing else; nobody is asked. -/
def YHold (P : Program) (ops : Array Oper) (S : World → Prop) (o : Oper) (v : Value) (a : Act) : Prop :=
  ((Region.wanted o (yielded ops a.tmps) = true ∧ ∀ w, S w → (execOp a.eval o).run P w = .ok (.value v) w) ∨ (Region.wanted o (yielded ops a.tmps) = false ∧ v = undef)) ∧ ∀ w, o.about P w a.eval = none
/-- Whatever order is picked, and S holds behind each. -/
def wpHIn (F : Fence) (n : Nat) (P : Program) (md : Region.Mode) (ops : Array Oper) (Q : Exit → Act → World → Prop) (S : World → Prop) : Nat → Array Bool → Act → World → Prop
  | 0, listed, a, w => Region.ready md ops listed = [] ∧ Q .normal a w
  | f + 1, listed, a, w => (Region.ready md ops listed = [] → Q .normal a w) ∧ ∀ i ∈ Region.ready md ops listed, wpOpIn F n P ops Q i (fun a' w' => S w' ∧ wpHIn F n P md ops Q S f (listed.setIfInBounds i true) a' w') a w
theorem wpAnyIn_of_h : ∀ (f : Nat) (listed : Array Bool) (a : Act) (w : World), wpHIn F n P md ops Q S f listed a w → wpAnyIn F n P md ops Q f listed a w
  | 0, _, _, _, h => h
  | f + 1, _, _, _, h => ⟨h.1, fun i hi => wpOpIn_mono (fun a' w' h' => wpAnyIn_of_h f _ a' w' h'.2) (h.2 i hi)⟩
theorem YHold.op {i : Nat} {o : Oper} {v : Value} {a : Act} (hd : ∀ c, o.op ≠ .defer c) (hi : ops[i]? = some o) (hy : YHold P ops S o v a) {K : Act → World → Prop} {w : World} (hS : S w) (h : K (a.put o.dst v) w) : wpOpIn F n P ops Q i K a w := by
  unfold wpOpIn
  simp only [hi]
  have hab : ∀ f, o.about P w a.eval = some f → F.fn f := fun f hf => by rw [hy.2 w] at hf; cases hf
  rcases hy.1 with ⟨hw, hv⟩ | ⟨hw, rfl⟩
  · simp only [hw, if_true, Oper.wpIn, semAt_free hd, hv w hS, Oper.uponIn]; exact ⟨hab, h⟩
  · simp only [hw, Bool.false_eq_true, if_false]; exact ⟨hab, h⟩
theorem YHold.same {o : Oper} {v : Value} {a a' : Act} (hy : YHold P ops S o v a) (he : execOp a'.eval o = execOp a.eval o) (hw : Region.wanted o (yielded ops a'.tmps) = Region.wanted o (yielded ops a.tmps)) (hb : ∀ w, o.about P w a'.eval = o.about P w a.eval) : YHold P ops S o v a' := by
  unfold YHold at *
  simp only [he, hw, hb]
  exact hy
theorem YHold.put {j : Nat} {oi oj : Oper} {v : Value} (hdj : ∀ c, oj.op ≠ .defer c) (hj : ops[j]? = some oj) (hap : oi.apart ops oj = true) (hsi : ∀ cs b, oi.op ≠ .select cs b) (hsj : ∀ cs b, oj.op ≠ .select cs b)
    (hQ : ∀ c a w, Q (.panic c) (a.put oi.dst v) w → Q (.panic c) a w) {K : Act → World → Prop} {a : Act} {w : World} (hy : YHold P ops S oi v a) (h : wpOpIn F n P ops Q j K (a.put oi.dst v) w) :
    wpOpIn F n P ops Q j (fun a' w' => YHold P ops S oi v a' ∧ K (a'.put oi.dst v) w') a w := by
  obtain ⟨h1, h2, h3⟩ := Oper.apart_spec hap
  have keep : ∀ u, YHold P ops S oi v (a.put oj.dst u) := fun u => hy.same (execOp_put oi hsi a oj.dst u h3) (wanted_put oi a oj.dst u h3) (fun w => about_put oi w a oj.dst u h3)
  have back : ∀ (u : Value) (w' : World), K ((a.put oi.dst v).put oj.dst u) w' → YHold P ops S oi v (a.put oj.dst u) ∧ K ((a.put oj.dst u).put oi.dst v) w' := fun u w' hk => ⟨keep u, by rw [← Act.put_comm a v u h2]; exact hk⟩
  unfold wpOpIn at *
  simp only [hj] at *
  rw [wanted_put oj a oi.dst v h1, about_put oj w a oi.dst v h1] at h
  split
  · rename_i hw
    simp only [hw, if_true] at h
    unfold Oper.wpIn at *
    rw [about_put oj w a oi.dst v h1, semAt_free hdj, execOp_put oj hsj a oi.dst v h1] at h
    refine ⟨h.1, ?_⟩
    replace h := h.2
    rw [semAt_free hdj]
    have hnd : ∀ d w', (execOp a.eval oj).run P w ≠ .ok (.defer d) w' ∨ True := fun _ _ => .inr trivial
    clear hnd
    generalize (execOp a.eval oj).run P w = r at *
    cases r with
    | halt x w' =>
      cases x <;> simp only [Oper.uponIn] at h ⊢
      exact hQ _ _ _ h
    | ok x w' =>
      cases x <;> simp only [Oper.uponIn] at h ⊢
      case value u => exact back u _ h
      case skip => exact back undef _ h
      case defer d =>
        refine ⟨((hy.same rfl rfl (fun _ => rfl) : YHold P ops S oi v { a with defers := d :: a.defers }).same (execOp_put oi hsi _ oj.dst _ h3) (wanted_put oi _ oj.dst _ h3) (fun w => about_put oi w _ oj.dst _ h3)), ?_⟩
        rw [← Act.put_comm _ v undef h2, ← Act.put_defers]
        exact h
      case enter f args =>
        refine ⟨h.1, CallsIn.mono h.2 fun e w'' he => ?_⟩
        cases e with
        | returned u => exact back u _ he
        | panicked c => exact hQ _ _ _ he
        | outgrown => exact he
      case row row args => exact ⟨h.1, RowsIn.mono h.2 fun u w'' he => back u _ he⟩
      case round l f tmps assign body =>
        refine ⟨h.1, RoundIn.mono h.2 fun e w'' he => ?_⟩
        cases e with
        | returned u => exact back u _ he
        | panicked c => exact hQ _ _ _ he
        | outgrown => exact he
  · rename_i hw
    simp only [hw] at h
    exact ⟨h.1, back undef _ h.2⟩
theorem wpHIn_first {i : Nat} {oi : Oper} {v : Value} (hd : ∀ (j : Nat) (o : Oper), ops[j]? = some o → ∀ c, o.op ≠ .defer c) (hi : ops[i]? = some oi) (hsel : ∀ (j : Nat) (o : Oper) cs b, ops[j]? = some o → o.op ≠ .select cs b)
    (hQ : ∀ c a w, Q (.panic c) (a.put oi.dst v) w → Q (.panic c) a w) :
    ∀ (f : Nat) (listed : Array Bool) (a : Act) (w : World), (∀ j oj, ops[j]? = some oj → j ≠ i → listed.getD j true = false → (∀ e ∈ oj.after, Region.binds md e = true → e.on ≠ i) → oi.apart ops oj = true) →
      i ∈ Region.ready md ops listed → YHold P ops S oi v a → S w → wpHIn F n P md ops Q S f (listed.setIfInBounds i true) (a.put oi.dst v) w → wpHIn F n P md ops Q S (f + 1) listed a w := by
  intro f
  induction f with
  | zero =>
    intro listed a w _ hr hy hS H
    refine ⟨fun h => (by rw [h] at hr; cases hr), fun j hj => ?_⟩
    by_cases hji : j = i
    · subst hji; exact hy.op (hd _ _ hi) hi hS ⟨hS, H⟩
    · have := ready_mono hj hji
      rw [H.1] at this
      cases this
  | succ f ih =>
    intro listed a w hfree hr hy hS H
    refine ⟨fun h => (by rw [h] at hr; cases hr), fun j hj => ?_⟩
    by_cases hji : j = i
    · subst hji; exact hy.op (hd _ _ hi) hi hS ⟨hS, H⟩
    · have h1 := H.2 j (ready_mono hj hji)
      obtain ⟨hjun, oj, hoj, hall⟩ := mem_ready.1 hj
      have hnot : ∀ e ∈ oj.after, Region.binds md e = true → e.on ≠ i := fun e he hb heq => by
        have h1 := hall e he hb
        have h0 := (mem_ready.1 hr).1
        rw [heq] at h1
        rcases Nat.lt_or_ge i listed.size with h' | h'
        · simp [h'] at h0 h1; rw [h0] at h1; cases h1
        · simp [Array.getElem?_eq_none h'] at h1
      have h2 := YHold.put (hd _ _ hoj) hoj (hfree j oj hoj hji hjun hnot) (fun cs b => hsel i oi cs b hi) (fun cs b => hsel j oj cs b hoj) hQ hy h1
      have hfree' : ∀ k ok, ops[k]? = some ok → k ≠ i → (listed.setIfInBounds j true).getD k true = false →
          (∀ e ∈ ok.after, Region.binds md e = true → e.on ≠ i) → oi.apart ops ok = true := fun k ok hk hki hun hno => by
        refine hfree k ok hk hki ?_ hno
        by_cases hjk : j = k
        · subst hjk; exact hjun
        · rw [getD_set_ne true hjk] at hun; exact hun
      refine wpOpIn_mono (fun a' w' h3 => ⟨h3.2.1, ih (listed.setIfInBounds j true) a' w' hfree' (ready_mono hr (Ne.symm hji)) h3.1 h3.2.1 ?_⟩) h2
      rw [Array.setIfInBounds_comm _ _ hji]
      exact h3.2.2
end
section
variable {F : Fence} {n : Nat} {P : Program} {l : List Oper} {md : Region.Mode} {Q : Exit → Act → World → Prop} {S : World → Prop}
theorem hin_take {i : Nat} {oi : Oper} {v : Value} {f : Nat} {listed : Array Bool} {a : Act} {w : World} (hd : noDefer l = true) (hi : l.toArray[i]? = some oi)
    (hs : Region.noSelect l.toArray = true) (hf : Region.free md l.toArray listed i = true) (hr : (Region.ready md l.toArray listed).contains i = true)
    (hQ : ∀ c a w, Q (.panic c) (a.put oi.dst v) w → Q (.panic c) a w) (hy : YHold P l.toArray S oi v a) (hS : S w)
    (h : wpHIn F n P md l.toArray Q S f (listed.setIfInBounds i true) (a.put oi.dst v) w) : wpHIn F n P md l.toArray Q S (f + 1) listed a w :=
  wpHIn_first (noDefer_spec hd) hi (Region.noSelect_spec hs) hQ f listed a w (Region.free_spec hi hf) (by simpa using hr) hy hS h
theorem hin_one {i : Nat} {o : Oper} {f : Nat} {listed : Array Bool} {a : Act} {w : World} (hr : Region.ready md l.toArray listed = [i]) (ho : l.toArray[i]? = some o)
    (h : ∀ K' : Act → World → Prop, (∀ a w, S w → wpHIn F n P md l.toArray Q S f (listed.setIfInBounds i true) a w → K' a w) → if Region.wanted o (yielded l.toArray a.tmps) = true then Oper.wpIn F n P o a w K' Q else (∀ f, o.about P w a.eval = some f → F.fn f) ∧ K' (a.put o.dst undef) w) :
    wpHIn F n P md l.toArray Q S (f + 1) listed a w :=
  ⟨fun h0 => by (rw [hr] at h0; cases h0), fun j hj => by
    rw [hr] at hj
    obtain rfl := List.mem_singleton.1 hj
    exact wpOpIn_step ho fun K' hK => h K' fun a w h1 h2 => hK a w ⟨h1, h2⟩⟩
theorem hin_two {i j : Nat} {o o' : Oper} {f : Nat} {listed : Array Bool} {a : Act} {w : World} (hr : Region.ready md l.toArray listed = [i, j]) (ho : l.toArray[i]? = some o) (ho' : l.toArray[j]? = some o')
    (h : ∀ K' : Act → World → Prop, (∀ a w, S w → wpHIn F n P md l.toArray Q S f (listed.setIfInBounds i true) a w → K' a w) → if Region.wanted o (yielded l.toArray a.tmps) = true then Oper.wpIn F n P o a w K' Q else (∀ f, o.about P w a.eval = some f → F.fn f) ∧ K' (a.put o.dst undef) w)
    (h' : ∀ K' : Act → World → Prop, (∀ a w, S w → wpHIn F n P md l.toArray Q S f (listed.setIfInBounds j true) a w → K' a w) → if Region.wanted o' (yielded l.toArray a.tmps) = true then Oper.wpIn F n P o' a w K' Q else (∀ f, o'.about P w a.eval = some f → F.fn f) ∧ K' (a.put o'.dst undef) w) :
    wpHIn F n P md l.toArray Q S (f + 1) listed a w :=
  ⟨fun h0 => by (rw [hr] at h0; cases h0), fun k hk => by
    rw [hr] at hk
    rcases List.mem_cons.1 hk with rfl | hk
    · exact wpOpIn_step ho fun K' hK => h K' fun a w h1 h2 => hK a w ⟨h1, h2⟩
    · obtain rfl := List.mem_singleton.1 hk
      exact wpOpIn_step ho' fun K' hK => h' K' fun a w h1 h2 => hK a w ⟨h1, h2⟩⟩
theorem hin_done {listed : Array Bool} {a : Act} {w : World} (hr : Region.ready md l.toArray listed = []) (h : Q .normal a w) : ∀ f, wpHIn F n P md l.toArray Q S f listed a w
  | 0 => ⟨hr, h⟩
  | _ + 1 => ⟨fun _ => h, by rw [hr]; simp⟩
end
end Go.Proofs.YtbmdoekfbkpaeaaGreatDoor
