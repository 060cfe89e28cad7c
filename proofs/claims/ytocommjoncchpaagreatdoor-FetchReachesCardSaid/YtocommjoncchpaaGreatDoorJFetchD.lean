/- What rounds keep of an iterator's, and an iterator of the rounds': a box whose row the rounds turn. Numbers as bytes, in plain lists. Numbers and texts as bytes: there and back, in plain lists. -/
import Derived.Test.YtocommjoncchpaaGreatDoorJRange2
import Derived.Test.YtocommjoncchpaaGreatDoorJRowG
import Derived.Test.YtocommjoncchpaaGreatDoorJDiskPlain
import Derived.Test.YtocommjoncchpaaGreatDoorJPlain
namespace Go.Proofs.YtocommjoncchpaaGreatDoor
open Go.RowKit

/-- The block of the row in box bo. -/
def outB (bo : Nat) (A : World) : Option Nat := (A.cell? ⟨bo, 0, none⟩).bind Value.ownBlock
theorem outB_box {bo t : Nat} {A : World} {v : Value} (h : Boxed A bo t v) : outB bo A = v.ownBlock := by
  unfold outB; rw [h.cell]; rfl
theorem outB_same {bo : Nat} {A B : World} (h : B.heap[bo]? = A.heap[bo]?) : outB bo B = outB bo A := by
  unfold outB; rw [World.cell?_of_block (a := ⟨bo, 0, none⟩) h]

/-- What rounds keep that turn boxes bo, ba, block lp, and the row in bo. -/
structure KpF (bo ba lp : Nat) (A B : World) : Prop where
  size : A.heap.size ≤ B.heap.size
  old : ∀ k, k < A.heap.size → k ≠ bo → k ≠ ba → k ≠ lp → outB bo A ≠ some k → B.heap[k]? = A.heap[k]?
  own : outB bo B = outB bo A ∨ ∃ g, outB bo B = some g ∧ A.heap.size ≤ g
  lt : (∀ g, outB bo A = some g → g < A.heap.size) → ∀ g, outB bo B = some g → g < B.heap.size
section
variable {bo ba lp : Nat}
theorem KpF.trans {A B C : World} (h : KpF bo ba lp A B) (k : KpF bo ba lp B C) : KpF bo ba lp A C := by
  refine ⟨Nat.le_trans h.size k.size, fun i hi h1 h2 h3 h4 => ?_, ?_, fun h0 => k.lt (h.lt h0)⟩
  · refine (k.old i (by have := h.size; omega) h1 h2 h3 ?_).trans (h.old i hi h1 h2 h3 h4)
    rcases h.own with e | ⟨g, e, hg⟩
    · rw [e]; exact h4
    · rw [e]; intro h5; cases h5; omega
  · rcases k.own with e | ⟨g, e, hg⟩
    · rw [e]; exact h.own
    · exact .inr ⟨g, e, Nat.le_trans h.size hg⟩
theorem KpF.put {W : World} (o : Obj) (h : bo ≠ lp) : KpF bo ba lp W (W.putObj lp o) := by
  have e : outB bo (W.putObj lp o) = outB bo W := outB_same (World.putObj_heap_other (by omega))
  exact ⟨by simp, fun k _ _ _ h3 _ => World.putObj_heap_other (by omega), .inl e, fun h0 g hg => by rw [e] at hg; have := h0 g hg; simpa using this⟩
/-- Steps that turn none but blocks from w's size on. -/
theorem KpF.grown {w A B : World} {row : Option Nat} (h : KpF bo ba lp w A) (hg : A.grownBy B row) (hr : ∀ r, row = some r → w.heap.size ≤ r) (hb : bo < w.heap.size) : KpF bo ba lp w B := by
  have hs := hg.size
  have h0 := h.size
  have hk : ∀ k, k < w.heap.size → B.heap[k]? = A.heap[k]? := fun k hk => hg.block k (by omega) (fun e => by have := hr k e.symm; omega)
  have e : outB bo B = outB bo A := outB_same (hk bo hb)
  refine ⟨by omega, fun k h1 h2 h3 h4 h5 => (hk k h1).trans (h.old k h1 h2 h3 h4 h5), by rw [e]; exact h.own, fun h1 g h2 => ?_⟩
  rw [e] at h2
  have := h.lt h1 g h2
  omega
theorem KpF.refl {A : World} (hn : ∀ g, outB bo A = some g → g < A.heap.size) : KpF bo ba lp A A := ⟨Nat.le_refl _, fun _ _ _ _ _ _ => rfl, .inl rfl, fun _ => hn⟩
end
theorem grown_of_below {A B : World} (h : Below A.heap.size A B) : A.grownBy B none := ⟨h.os, h.tape, h.output, h.size, fun k hk _ => h.block k hk⟩
/-- The first blocks are as they were. -/
def KpO (n₀ : Nat) (A B : World) : Prop := ∀ k, k < n₀ → B.heap[k]? = A.heap[k]?
theorem KpF.first {bo ba lp n₀ : Nat} {w A B : World} (h : KpF bo ba lp A B) (h1 : n₀ ≤ bo) (h2 : n₀ ≤ ba) (h3 : n₀ ≤ lp) (h4 : outB bo A = none) (h5 : n₀ ≤ A.heap.size) (h0 : KpO n₀ w A) : KpO n₀ w B :=
  fun k hk => (h.old k (by omega) (by omega) (by omega) (by omega) (by rw [h4]; simp)).trans (h0 k hk)
theorem KpO.str {n₀ : Nat} {w W : World} (h : KpO n₀ w W) (hs : w.heap.size = n₀) {v : Value} {xs : List (List UInt8)} (hr : StrRow w v xs) : StrRow W v xs := by
  obtain ⟨a, c, hv, hc, hm, hx⟩ := hr
  refine ⟨a, c, hv, hc, hm, hx.imp id fun ⟨b, o, ha, hx⟩ => ⟨b, o, ha, fun j x hj => ?_⟩⟩
  have h1 := hx j x hj
  exact (World.cell?_of_block (a := ⟨b, o + j, none⟩) (h b (by have := lt_of_cell h1; omega))).trans h1
theorem KpO.snp {n₀ : Nat} {w W : World} (h : KpO n₀ w W) (hs : w.heap.size = n₀) {v : Value} {xs : List Snp} (hr : SnpRow w v xs) : SnpRow W v xs := by
  obtain ⟨a, c, hv, hc, hm, hx⟩ := hr
  refine ⟨a, c, hv, hc, hm, hx.imp id fun ⟨b, o, ha, hx⟩ => ⟨b, o, ha, fun j y hj i u hu => ?_⟩⟩
  have h1 := hx j y hj i u hu
  exact (World.cell?_of_block (a := ⟨b, _, none⟩) (h b (by have := lt_of_cell h1; omega))).trans h1
theorem own_block {w w' : World} {B e K n : Nat} {v : Value} {xs : List Value} (h : w.ownsRow B e K v n xs) (hk : ∀ g, v.ownBlock = some g → w'.heap[g]? = w.heap[g]?) : w'.ownsRow B e K v n xs := by
  obtain ⟨h1, h2⟩ := h
  refine ⟨h1, ?_⟩
  rcases h2 with h2 | ⟨g, cap, cur, rfl, hb, hg, h3⟩
  · exact .inl h2
  · exact .inr ⟨g, cap, cur, rfl, hb, (hk g rfl).trans hg, h3⟩
theorem BMap.block {w w' : World} {b n : Nat} {f : List UInt8 → Bool} (h : BMap w b n f) (hb : w'.heap[b]? = w.heap[b]?) : BMap w' b n f := by
  obtain ⟨D, ⟨es, clock, h1, h2⟩, h3⟩ := h
  exact ⟨D, ⟨es, clock, hb.trans h1, h2⟩, h3⟩
/-- A row of the call's own is no map. -/
theorem BMap.apart {w : World} {b n : Nat} {f : List UInt8 → Bool} (h : BMap w b n f) {B e K m : Nat} {v : Value} {xs : List Value} (hr : w.ownsRow B e K v m xs) : v.ownBlock ≠ some b := by
  obtain ⟨D, ⟨es, clock, h1, h2⟩, h3⟩ := h
  intro hv
  rcases hr.2 with ⟨rfl, _⟩ | ⟨g, cap, cur, rfl, hb, hg, _⟩
  · simp [Value.ownBlock] at hv
  · simp [Value.ownBlock] at hv
    subst hv
    rw [h1] at hg; cases hg
theorem BMap.le {w : World} {b n m : Nat} {f : List UInt8 → Bool} (h : BMap w b n f) (hm : n ≤ m) : BMap w b m f := by
  obtain ⟨D, ⟨es, clock, h1, h2, h3, h4⟩, h5⟩ := h
  exact ⟨D, ⟨es, clock, h1, h2, Nat.le_trans h3 hm, h4⟩, h5⟩
theorem BMap.as {w : World} {b n : Nat} {f g : List UInt8 → Bool} (h : BMap w b n f) (hfg : ∀ k, f k = g k) : BMap w b n g := by
  obtain rfl : f = g := funext hfg
  exact h

/-- The iterator's own behind a round. -/
theorem keepF {bo ba lp N mb m n e : Nat} {wr w4 w5 : World} {qv : Value} {f : List UInt8 → Bool} {xs : List Value} (hb : Below wr.heap.size wr w4) (hk : KpF bo ba lp w4 w5) (hbo : bo < N) (hba : ba < N) (hlp : lp < N) (hmb : N ≤ mb) (hbw : bo < wr.heap.size)
    (hmap : BMap wr mb m f) (hown : wr.ownsRow N e 1 qv n xs) (hsep : ∀ g, outB bo wr = some g → g ≠ mb ∧ qv.ownBlock ≠ some g) :
    BMap w5 mb m f ∧ w5.ownsRow N e 1 qv n xs ∧ (∀ g, outB bo w5 = some g → g ≠ mb ∧ qv.ownBlock ≠ some g) := by
  have ho : outB bo w4 = outB bo wr := outB_same (hb.block bo hbw)
  have hs := hb.size
  have hml := hmap.lt
  have hql := hown.lt
  refine ⟨hmap.block ((hk.old mb (by omega) (by omega) (by omega) (by omega) ?_).trans (hb.block mb hml)), own_block hown (fun g hg => (hk.old g (by have := (hql g hg).2; omega) (by have := (hql g hg).1; omega) (by have := (hql g hg).1; omega) (by have := (hql g hg).1; omega) ?_).trans (hb.block g (hql g hg).2)), fun g hg => ?_⟩
  · rw [ho]; intro h; exact (hsep _ h).1 rfl
  · rw [ho]; intro h; exact (hsep _ h).2 hg
  · rcases hk.own with h | ⟨g', h, hg'⟩
    · rw [h, ho] at hg; exact hsep g hg
    · rw [h] at hg
      cases hg
      exact ⟨by omega, fun h2 => by have := (hql _ h2).2; omega⟩
theorem keepNew {bo ba lp N j : Nat} {wr w4 w5 : World} (hb : Below wr.heap.size wr w4) (hk : KpF bo ba lp w4 w5) (hbo : bo < N) (hba : ba < N) (hlp : lp < N) (hN : N ≤ wr.heap.size) (hlt : ∀ g, outB bo wr = some g → g < wr.heap.size)
    (h1 : wr.heap.size ≤ j) (h2 : j < w4.heap.size) : w5.heap[j]? = w4.heap[j]? := by
  refine hk.old j h2 (by omega) (by omega) (by omega) ?_
  rw [outB_same (hb.block bo (by omega))]
  intro h
  have := hlt _ h
  omega

/-- Behind an append in a fence: where the row lies. -/
theorem wpListIn_append_sep {F : Fence} {n' : Nat} {P : Program} (w : World) {ops : Array Oper} {rest : List Oper} {o : Oper} {a : Act} {Q : Exit → Act → World → Prop} (hgd : o.guard = none) (s x : Operand) (t : TypeId)
    (ho : o.op = .call { callee := .builtin .append, args := #[s, x], argTypes := #[t, t] })
    (base : Nat) (e : TypeId) (i : TypeInfo) (z : Value) (size bytes : Nat) (ht : P.underlying t = some (.slice e)) (hi : P.info? e = some i) (hz : i.zero = some z)
    (hsize : i.size = size) (hby : i.bytes = bytes) (hzs : z.cells.size = size) (hsz : 0 < size)
    (v : Value) (n : Nat) (xs : List Value) (hs : a.eval s = v) (hown : w.ownsRow base e size v n xs)
    (ad : Addr) (m c : Nat) (news : List Value) (hx : a.eval x = .slice (some ad) m c) (hl : news.length = m * size) (hnews : ∀ j u, news[j]? = some u → w.cell? (ad.add j) = some u) (h1 : ∀ u ∈ news, u.oneCell' = true)
    (h63 : n + m ≤ maxLen) (hbytes : (n + m) * bytes ≤ 140737488355328) (hbase : base ≤ w.heap.size) (hm : 0 < m)
    (h : ∀ v' w', w'.ownsRow base e size v' (n + m) (xs ++ news) → w.grownBy w' v.ownBlock → (v'.ownBlock = v.ownBlock ∨ v'.ownBlock = some w.heap.size) → wpListIn F n' P ops Q rest (a.put o.dst v') w') : wpListIn F n' P ops Q (o :: rest) a w := by
  refine wpListIn_plain hgd fun K hK => ?_
  obtain ⟨v', w', hr, h2, h3, h4⟩ := run_append_sep (P := P) w base t o.type e i z size bytes ht hi hz hsize hby hzs hsz v n xs hown ad m c news hl hnews h1 h63 hbytes hbase hm
  unfold Oper.wpIn
  refine ⟨?_, ?_⟩
  · simp [Oper.about, ho, resolve, Target.leads, Sem.run_pure]
  · rw [Oper.semAt_plain F _ _ (by rw [ho]; intro c hc'; cases hc')]
    simp [execOp, ho, resolve, invoke, builtin, hs, hx, hr, Result.andThen]
    exact hK _ _ (h v' w' h2 h3 h4)
end Go.Proofs.YtocommjoncchpaaGreatDoor

namespace Go.Proofs.YtocommjoncchpaaGreatDoor

/-- A number as bytes. -/
def putV (n : Nat) : List UInt8 := if n < 128 then [UInt8.ofNat n] else UInt8.ofNat (n % 128 + 128) :: putV (n / 128)
termination_by n
decreasing_by omega

/-- The number that bytes begin with, how many they are, what is wrong: from byte i on, acc so far. -/
def takeGo : Nat → Nat → List UInt8 → Nat × Nat × Int
  | _, _, [] => (0, 0, 1)
  | i, acc, c :: cs =>
    if i = 9 ∧ 1 < c.toNat then (0, 0, 4)
    else if c.toNat < 128 then (if c.toNat = 0 ∧ 0 < i then (0, 0, 2) else (acc + c.toNat % 128 * 2 ^ (7 * i), i + 1, 0))
    else takeGo (i + 1) (acc + c.toNat % 128 * 2 ^ (7 * i)) cs
def takeV (l : List UInt8) : Nat × Nat × Int := takeGo 0 0 l

def putText (l : List UInt8) : List UInt8 := if 65536 < l.length then [] else putV l.length ++ l
def takeText (l : List UInt8) : List UInt8 × Nat × Int :=
  if (takeV l).2.2 ≠ 0 then ([], 0, (takeV l).2.2)
  else if 65536 < (takeV l).1 then ([], 0, 4)
  else if l.length - (takeV l).2.1 < (takeV l).1 then ([], 0, 1)
  else (cutL l (takeV l).2.1 ((takeV l).2.1 + (takeV l).1), (takeV l).2.1 + (takeV l).1, 0)

theorem putV_small {n : Nat} (h : n < 128) : putV n = [UInt8.ofNat n] := by rw [putV, if_pos h]
theorem putV_big {n : Nat} (h : ¬ n < 128) : putV n = UInt8.ofNat (n % 128 + 128) :: putV (n / 128) := by rw [putV, if_neg h]

theorem takeGo_end {l : List UInt8} {i acc : Nat} (h : l.length ≤ i) : takeGo i acc (l.drop i) = (0, 0, 1) := by
  rw [List.drop_eq_nil_of_le h]; rfl
theorem takeGo_at {l : List UInt8} {i acc : Nat} (h : i < l.length) : takeGo i acc (l.drop i) =
    if i = 9 ∧ 1 < l[i].toNat then (0, 0, 4)
    else if l[i].toNat < 128 then (if l[i].toNat = 0 ∧ 0 < i then (0, 0, 2) else (acc + l[i].toNat % 128 * 2 ^ (7 * i), i + 1, 0))
    else takeGo (i + 1) (acc + l[i].toNat % 128 * 2 ^ (7 * i)) (l.drop (i + 1)) := by
  rw [List.drop_eq_getElem_cons h]; rfl

theorem acc_bound {i acc d : Nat} (h9 : i ≤ 9) (ha : acc < 2 ^ (7 * i)) (hd : d < 128) (h1 : i = 9 → d ≤ 1) : acc + d * 2 ^ (7 * i) < 2 ^ 64 ∧ d * 2 ^ (7 * i) < 2 ^ 64 ∧ (i < 9 → acc + d * 2 ^ (7 * i) < 2 ^ (7 * (i + 1))) := by
  have : i = 0 ∨ i = 1 ∨ i = 2 ∨ i = 3 ∨ i = 4 ∨ i = 5 ∨ i = 6 ∨ i = 7 ∨ i = 8 ∨ i = 9 := by omega
  rcases this with rfl | rfl | rfl | rfl | rfl | rfl | rfl | rfl | rfl | rfl <;> simp at ha ⊢ <;> (try have := h1 rfl) <;> omega

/-- What was taken lies in the bytes, and is a word. -/
theorem takeGo_ok : ∀ (l : List UInt8) (i acc : Nat), i ≤ 9 → acc < 2 ^ (7 * i) → (takeGo i acc l).2.2 = 0 → (takeGo i acc l).2.1 ≤ i + l.length ∧ i < (takeGo i acc l).2.1 ∧ (takeGo i acc l).1 < 2 ^ 64
  | [], i, acc, _, _, h => by simp [takeGo] at h
  | c :: cs, i, acc, h9, ha, h => by
    unfold takeGo at h ⊢
    by_cases h1 : i = 9 ∧ 1 < c.toNat
    · rw [if_pos h1] at h; simp at h
    rw [if_neg h1] at h ⊢
    have hb := acc_bound (d := c.toNat % 128) h9 ha (by omega) (by intro e; have : ¬ 1 < c.toNat := fun hh => h1 ⟨e, hh⟩; omega)
    by_cases h2 : c.toNat < 128
    · rw [if_pos h2] at h ⊢
      by_cases h3 : c.toNat = 0 ∧ 0 < i
      · rw [if_pos h3] at h; simp at h
      · rw [if_neg h3]
        exact ⟨by simp, by simp, hb.1⟩
    · rw [if_neg h2] at h ⊢
      have hi : i < 9 := by
        rcases Nat.lt_or_ge i 9 with hi | hi
        · exact hi
        · exfalso; exact h1 ⟨by omega, by omega⟩
      have := takeGo_ok cs (i + 1) _ (by omega) (hb.2.2 hi) h
      simp only [List.length_cons]
      exact ⟨by omega, by omega, this.2.2⟩
theorem takeV_ok {l : List UInt8} (h : (takeV l).2.2 = 0) : (takeV l).2.1 ≤ l.length ∧ 0 < (takeV l).2.1 ∧ (takeV l).1 < 2 ^ 64 := by
  have := takeGo_ok l 0 0 (by omega) (by simp) h
  rw [Nat.zero_add] at this
  exact this
theorem takeV_small {c : UInt8} {l : List UInt8} (h : c.toNat < 128) : takeV (c :: l) = (c.toNat, 1, 0) := by
  unfold takeV takeGo
  rw [if_neg (by omega), if_pos h, if_neg (by omega)]
  simp
  omega

theorem putV_step {n0 n : Nat} {out : List UInt8} (h : putV n0 = out ++ putV n) (hn : ¬ n < 128) : putV n0 = (out ++ [UInt8.ofNat (n % 128 + 128)]) ++ putV (n / 128) := by
  rw [h, putV_big hn, List.append_assoc]; rfl
theorem putV_last {n0 n : Nat} {out : List UInt8} (h : putV n0 = out ++ putV n) (hn : n < 128) : putV n0 = out ++ [UInt8.ofNat n] := by
  rw [h, putV_small hn]
theorem putV_room {n k : Nat} (hk : k ≤ 9) (hn : n < 2 ^ (64 - 7 * k)) (hb : 128 ≤ n) : k < 9 ∧ n / 128 < 2 ^ (64 - 7 * (k + 1)) := by
  have : k = 0 ∨ k = 1 ∨ k = 2 ∨ k = 3 ∨ k = 4 ∨ k = 5 ∨ k = 6 ∨ k = 7 ∨ k = 8 ∨ k = 9 := by omega
  rcases this with rfl | rfl | rfl | rfl | rfl | rfl | rfl | rfl | rfl | rfl <;> simp at hn ⊢ <;> omega
theorem putV_word {n k : Nat} (hk : k ≤ 9) (hn : n < 2 ^ (64 - 7 * k)) : n < 2 ^ 64 :=
  Nat.lt_of_lt_of_le hn (Nat.pow_le_pow_right (by omega) (by omega))

theorem putV_len' : ∀ (d k n : Nat), d + k = 9 → n < 2 ^ (64 - 7 * k) → (putV n).length + k ≤ 10
  | 0, k, n, hd, hn => by
    obtain rfl : k = 9 := by omega
    rw [putV_small (by simp at hn; omega)]
    simp
  | d + 1, k, n, hd, hn => by
    by_cases h : n < 128
    · rw [putV_small h]; simp; omega
    · obtain ⟨h1, h2⟩ := putV_room (by omega) hn (by omega)
      have := putV_len' d (k + 1) (n / 128) (by omega) h2
      rw [putV_big h]
      simp only [List.length_cons]
      omega
theorem putV_len {n : Nat} (h : n < 2 ^ 64) : (putV n).length ≤ 10 := putV_len' 9 0 n rfl (by simpa using h)

theorem takeText_ok {l : List UInt8} (h : (takeText l).2.2 = 0) : (takeText l).2.1 ≤ l.length ∧ (takeText l).1.length ≤ l.length := by
  unfold takeText at h ⊢
  by_cases h1 : (takeV l).2.2 ≠ 0
  · rw [if_pos h1] at h; exact absurd h h1
  rw [if_neg h1] at h ⊢
  by_cases h2 : 65536 < (takeV l).1
  · rw [if_pos h2] at h; simp at h
  rw [if_neg h2] at h ⊢
  by_cases h3 : l.length - (takeV l).2.1 < (takeV l).1
  · rw [if_pos h3] at h; simp at h
  rw [if_neg h3]
  have := takeV_ok (l := l) (by simpa using h1)
  simp only [cutL, List.length_drop, List.length_take]
  omega
end Go.Proofs.YtocommjoncchpaaGreatDoor

namespace Go.Proofs.YtocommjoncchpaaGreatDoor

theorem takeGo_put : ∀ (d i acc n : Nat) (rest : List UInt8), d + i = 9 → n < 2 ^ (64 - 7 * i) → ¬ (n = 0 ∧ 0 < i) → takeGo i acc (putV n ++ rest) = (acc + n * 2 ^ (7 * i), i + (putV n).length, 0)
  | d, i, acc, n, rest, hd, hn, hz => by
    by_cases h : n < 128
    · have hc : (UInt8.ofNat n).toNat = n := by simp; omega
      rw [putV_small h]
      simp only [List.cons_append, List.nil_append, List.length_singleton]
      rw [takeGo, hc, if_neg, if_pos h, if_neg hz, Nat.mod_eq_of_lt h]
      rintro ⟨rfl, h1⟩
      simp at hn
      omega
    · have hr := putV_room (n := n) (k := i) (by omega) hn (by omega)
      have hc : (UInt8.ofNat (n % 128 + 128)).toNat = n % 128 + 128 := by simp; omega
      rw [putV_big h]
      simp only [List.cons_append, List.length_cons]
      match d, hd with
      | 0, hd => omega
      | d + 1, hd =>
        rw [takeGo, hc, if_neg (by omega), if_neg (by omega), takeGo_put d (i + 1) _ (n / 128) rest (by omega) hr.2 (by omega)]
        have e1 : (n % 128 + 128) % 128 = n % 128 := by omega
        have e2 : 2 ^ (7 * (i + 1)) = 128 * 2 ^ (7 * i) := by rw [Nat.mul_add, Nat.mul_one, Nat.pow_add, Nat.mul_comm]
        rw [e1, e2]
        have e3 : n * 2 ^ (7 * i) = n % 128 * 2 ^ (7 * i) + n / 128 * (128 * 2 ^ (7 * i)) := by
          rw [← Nat.mul_assoc, ← Nat.add_mul]; congr 1; omega
        rw [e3]
        refine Prod.ext ?_ (Prod.ext ?_ rfl)
        · simp only; omega
        · simp only; omega
theorem takeV_put {n : Nat} (h : n < 2 ^ 64) (rest : List UInt8) : takeV (putV n ++ rest) = (n, (putV n).length, 0) := by
  unfold takeV
  rw [takeGo_put 9 0 0 n rest rfl (by simpa using h) (by omega)]
  simp
theorem takeText_put {t : List UInt8} (h : t.length ≤ 65536) (rest : List UInt8) : takeText (putText t ++ rest) = (t, (putText t).length, 0) := by
  have e : putText t = putV t.length ++ t := by unfold putText; rw [if_neg (by omega)]
  have h1 : takeV (putText t ++ rest) = (t.length, (putV t.length).length, 0) := by
    rw [e, List.append_assoc, takeV_put (by omega)]
  unfold takeText
  rw [h1]
  simp only
  rw [if_neg (by simp), if_neg (by omega), if_neg (by rw [e]; simp)]
  refine Prod.ext ?_ (Prod.ext ?_ rfl)
  · simp only [cutL]
    rw [e, List.append_assoc, List.take_append, List.take_of_length_le (by omega), List.drop_append, List.drop_eq_nil_of_le (by omega)]
    simp
  · simp only [e, List.length_append]
end Go.Proofs.YtocommjoncchpaaGreatDoor
