/- Rows of single cells that a call owns, marked behind their room (a text's bytes): append. No program in sight. -/
import Derived.Test.YtkejdbidomlonaaGreatDoorRowK
import Derived.ArgAppend
import Derived.Lib.ConvBytes
namespace Go.Proofs.YtkejdbidomlonaaGreatDoor
open Go.RowKit

/-- v is a row of the call's own with these cells; what is frozen in its block lies behind its room. -/
def RowM (w : World) (base : Nat) (e : TypeId) (v : Value) (xs : List Value) : Prop :=
  ∃ g cap cur lo hi, v = .slice (some ⟨g, 0, none⟩) xs.length cap ∧ base ≤ g ∧ w.heap[g]? = some (.cells cur e (lo, hi)) ∧ xs.length ≤ cap ∧ cap ≤ maxLen ∧ cur.size = cap ∧ cur.toList.take xs.length = xs ∧ (hi ≤ lo ∨ cap ≤ lo)

theorem RowM.of_own {w : World} {base B : Nat} {e : TypeId} {v : Value} {xs : List Value} (h : w.ownsRow B e 1 v xs.length xs) (h0 : 0 < xs.length) (hb : base ≤ B) : RowM w base e v xs := by
  rcases h.2 with ⟨-, hn⟩ | ⟨g, cap, cur, hv, hB, hh, hc, hm, hs, ht⟩
  · omega
  · exact ⟨g, cap, cur, 0, 0, hv, Nat.le_trans hb hB, hh, hc, hm, by omega, by simpa using ht, .inl (Nat.le_refl _)⟩
theorem RowM.below {w w' : World} {base : Nat} {e : TypeId} {v : Value} {xs : List Value} (h : RowM w base e v xs) (hb : Below w.heap.size w w') : RowM w' base e v xs := by
  obtain ⟨g, cap, cur, lo, hi, hv, hB, hh, h⟩ := h
  exact ⟨g, cap, cur, lo, hi, hv, hB, (hb.block g (heap_lt_of hh)).trans hh, h⟩
where
  heap_lt_of {w : World} {g : Nat} {o : Obj} (h : w.heap[g]? = some o) : g < w.heap.size := (Array.getElem?_eq_some_iff.1 h).1
theorem RowM.cell {w : World} {base g c : Nat} {e : TypeId} {n : Nat} {xs : List Value} (h : RowM w base e (.slice (some ⟨g, 0, none⟩) n c) xs) {j : Nat} {u : Value} (hj : xs[j]? = some u) : w.cell? ⟨g, j, none⟩ = some u := by
  obtain ⟨g', cap, cur, lo, hi, hv, hB, hh, hc, hm, hs, ht, hf⟩ := h
  cases hv
  have h1 : cur.toList[j]? = some u := by
    have : (cur.toList.take xs.length)[j]? = some u := by rw [ht]; exact hj
    rw [List.getElem?_take] at this
    split at this
    · exact this
    · cases this
  simp only [World.cell?, hh]
  simpa using h1
theorem RowM.kept {w w' : World} {base g c k n : Nat} {e : TypeId} {xs : List Value} (h : RowM w base e (.slice (some ⟨g, 0, none⟩) n c) xs) (hb : w.grownBy w' (some k)) (hk : g ≠ k) : RowM w' base e (.slice (some ⟨g, 0, none⟩) n c) xs := by
  obtain ⟨g', cap, cur, lo, hi, hv, hB, hh, hx⟩ := h
  cases hv
  exact ⟨g, c, cur, lo, hi, rfl, hB, (hb.block g (RowM.below.heap_lt_of hh) (fun e => hk (Option.some.inj e))).trans hh, hx⟩
theorem RowM.slice {w : World} {base : Nat} {e : TypeId} {v : Value} {xs : List Value} (h : RowM w base e v xs) : ∃ g c, v = .slice (some ⟨g, 0, none⟩) xs.length c ∧ base ≤ g ∧ g < w.heap.size ∧ xs.length ≤ c ∧ c ≤ maxLen := by
  obtain ⟨g, cap, cur, lo, hi, hv, hB, hh, hc, hm, -⟩ := h
  exact ⟨g, cap, hv, hB, (Array.getElem?_eq_some_iff.1 hh).1, hc, hm⟩

section
variable {P : Program}
theorem wpList_append_rowm (w : World) {ops : Array Oper} {rest : List Oper} {o : Oper} {a : Act} {Q : Exit → Act → World → Prop} (hg : o.guard = none) (s x : Operand) (t : TypeId)
    (ho : o.op = .call { callee := .builtin .append, args := #[s, x], argTypes := #[t, t] }) (e : TypeId) (i : TypeInfo) (z : Value) (bytes : Nat)
    (ht : P.underlying t = some (.slice e)) (hi : P.info? e = some i) (hz : i.zero = some z) (hsize : i.size = 1) (hby : i.bytes = bytes) (hzs : z.cells.size = 1)
    (base : Nat) (v : Value) (xs : List Value) (hv : a.eval s = v) (h : RowM w base e v xs) (ad : Addr) (m c : Nat) (us : List Value) (hx : a.eval x = .slice (some ad) m c) (hm : us.length = m) (hus : ∀ j u, us[j]? = some u → w.cell? (ad.add j) = some u) (h1 : ∀ u ∈ us, u.oneCell' = true)
    (b1 : xs.length + m ≤ maxLen) (b2 : (xs.length + m) * bytes ≤ 140737488355328) (hbase : base ≤ w.heap.size)
    (hK : ∀ v' w', RowM w' base e v' (xs ++ us) → Below base w w' → wpList P ops Q rest (a.put o.dst v') w') : wpList P ops Q (o :: rest) a w := by
  subst hm
  obtain ⟨g, cap, cur, lo, hi', rfl, hB, hh, hc, hmx, hs, htk, hf⟩ := h
  have hcell : ∀ j u, xs[j]? = some u → w.cell? ⟨g, 0 + j, none⟩ = some u := fun j u hj => by
    rw [Nat.zero_add]
    exact RowM.cell (base := base) (c := cap) ⟨g, cap, cur, lo, hi', rfl, hB, hh, hc, hmx, hs, htk, hf⟩ hj
  refine wpList_append_arg w hg s x t ho e i z 1 bytes ht hi hz hsize hby hzs (by decide) g 0 xs.length cap xs hv (by omega) hcell ad us.length c us hx (by omega) hus h1 ?_ b1 b2 ?_ ?_
  · intro hle j hj
    rw [Nat.zero_add, Nat.mul_one]
    constructor
    · simp only [World.cell?, hh]
      simp
      omega
    · simp only [World.frozen?, hh]
      rcases hf with hf | hf
      · simp; omega
      · simp; omega
  · intro hle
    rw [Nat.zero_add, Nat.mul_one]
    have hset : ∀ (us : List Value) (o : Nat) (cur : Array Value) (w : World), w.heap[g]? = some (.cells cur e (lo, hi')) → o + us.length ≤ cur.size → (w.setCells g o us).heap[g]? = some (.cells (cur.toList.take o ++ us ++ cur.toList.drop (o + us.length)).toArray e (lo, hi')) ∧ Below base w (w.setCells g o us) := by
      intro us
      induction us with
      | nil => intro o cur w hh _; exact ⟨by simpa [World.setCells] using hh, Below.refl _ _⟩
      | cons u us ih =>
        intro o cur w hh hl
        simp only [List.length_cons] at hl
        have h2 : (w.setCell ⟨g, o, none⟩ u).heap[g]? = some (.cells (cur.setIfInBounds o u) e (lo, hi')) := by
          rw [setCell_eq_setRow w g o cur e (lo, hi') u hh]
          exact setRow_heap w g cur _ e _ hh
        obtain ⟨i1, i2⟩ := ih (o + 1) (cur.setIfInBounds o u) _ h2 (by simp; omega)
        refine ⟨?_, ((Below.refl base w).setCell (p := ⟨g, o, none⟩) hB _).trans i2⟩
        rw [World.setCells, i1]
        congr 3
        apply List.ext_getElem?
        intro k
        simp only [Array.toList_setIfInBounds, List.getElem?_append, List.length_take, List.length_set, Array.length_toList, List.length_append, List.length_cons]
        by_cases hk : k < o
        · simp [hk, show k < o + 1 by omega, show min (o + 1) cur.size = o + 1 by omega, show min o cur.size = o by omega, show o ≠ k by omega, show k < o + (us.length + 1) by omega, show k < o + 1 + us.length by omega]
        · by_cases hk2 : k = o
          · subst hk2
            simp [show min (k + 1) cur.size = k + 1 by omega, show min k cur.size = k by omega, show k < k + (us.length + 1) by omega, show k < k + 1 + us.length by omega]
          · have e1 : min (o + 1) cur.size = o + 1 := by omega
            have e2 : min o cur.size = o := by omega
            simp only [e1, e2, hk, if_false, show ¬ k < o + 1 by omega]
            by_cases hk3 : k < o + (us.length + 1)
            · rw [if_pos (by omega), if_pos hk3, show k - o = (k - (o + 1)) + 1 by omega, List.getElem?_cons_succ]
            · rw [if_neg (by omega), if_neg hk3, List.getElem?_drop, List.getElem?_drop, List.getElem?_set_ne (by omega)]
              congr 1
              omega
    obtain ⟨h2, h3⟩ := hset us xs.length cur w hh (by omega)
    have hK' := hK (.slice (some ⟨g, 0, none⟩) (xs.length + us.length) cap) (w.setCells g xs.length us) ⟨g, cap, _, lo, hi', by rw [List.length_append], hB, h2, by rw [List.length_append]; omega, hmx, by simp; omega, by
      rw [htk, List.length_append, List.append_assoc]
      rw [List.take_append, List.take_of_length_le (by omega), show xs.length + us.length - xs.length = us.length by omega, List.take_left], hf⟩ h3
    simpa using hK'
  · intro hlt v' w' hown hgrow
    by_cases h0 : 0 < (xs ++ us).length
    · exact hK v' w' (RowM.of_own (by rw [List.length_append]; exact hown) h0 hbase) ((Below.refl base w).grown hgrow hbase (fun j hj => by cases hj))
    · rw [List.length_append] at h0
      omega
end

/-- a text's bytes as a row. -/
theorem conv_row {P : Program} (w : World) (src dst e : TypeId) (l : List UInt8) {u : TypeDesc} (hl : l.length ≤ 1100000) (hs : P.underlying src = some u) (hd : P.underlying dst = some (.slice e)) (he : P.underlying e = some (.int .u8)) :
    ∃ v w', (convert src dst (S l)).run P w = .ok v w' ∧ RowM w' w.heap.size e v (Lib.byteCells l) ∧ Below w.heap.size w w' := by
  refine ⟨_, _, Lib.run_convert_string_bytes w src dst e ⟨l.toArray⟩ hs hd he, ?_, ?_⟩
  · have hsz : (⟨l.toArray⟩ : ByteArray).size = l.length := by simp [ByteArray.size]
    have hge := grownCap_ge w (⟨l.toArray⟩ : ByteArray).size 0 e
    have hle := grownCap_le_maxLen w (⟨l.toArray⟩ : ByteArray).size 0 e (by rw [hsz]; unfold maxLen; omega)
    have hbl : (Lib.byteCells l).length = l.length := by simp [Lib.byteCells]
    have hcs : (Lib.bytesCells w e ⟨l.toArray⟩).size = grownCap w (⟨l.toArray⟩ : ByteArray).size 0 e := by
      simp only [Lib.bytesCells, Array.size_append, Array.size_map, Array.size_replicate]
      rw [hsz] at hge ⊢
      rw [List.size_toArray]
      omega
    refine ⟨w.heap.size, _, _, _, _, by rw [hbl, hsz], Nat.le_refl _, Lib.bytesWorld_at_new w e _, by rw [hbl]; omega, hle, hcs, ?_, .inr (by rw [hcs]; exact Nat.le_refl _)⟩
    simp only [Lib.bytesCells, Array.toList_append, Array.toList_map]
    rw [List.take_append_of_le_length (by simp [Lib.byteCells])]
    rw [List.take_of_length_le (by simp [Lib.byteCells])]
    rfl
  · refine ⟨?_, ?_, ?_, ?_, fun k hk => Lib.bytesWorld_at_old w e _ k hk⟩
    · simp [Lib.bytesWorld, World.freeze, World.alloc, World.drew, -World.alloc_eq, -World.drew_eq]
    · simp [Lib.bytesWorld, World.freeze, World.alloc, World.drew, -World.alloc_eq, -World.drew_eq]
    · simp [Lib.bytesWorld, World.freeze, World.alloc, World.drew, -World.alloc_eq, -World.drew_eq]
    · rw [Lib.bytesWorld_size]; omega
end Go.Proofs.YtkejdbidomlonaaGreatDoor
