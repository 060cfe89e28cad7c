/- Rows of elements of several cells in memory. Rows of elements of k cells: copy, and rows that a call owns, in the walk's words. No program in sight. A map from texts to numbers that the call makes. -/
import Derived.Test.YtaompdnnkfmjhaaGreatDoorJPlain
import Derived.Laws.BytesArg
import Derived.Lib.UnsafeStr
import Derived.Laws.CopyOwn
import Derived.Laws.Externs
import Derived.Lib.Overlaps
import Derived.Lib.AppendZerosOnto
import Derived.Maps.OwnOps
import Derived.Maps.Views
import Derived.Sort.KeysCollected
namespace Go.Proofs.YtaompdnnkfmjhaaGreatDoor
open Go.RowKit

/-- The slice v reads as the elements xs, f the cells of one. -/
def Row {α : Type} (f : α → List Value) (w : World) (v : Value) (xs : List α) : Prop :=
  ∃ a c, v = .slice a xs.length c ∧ xs.length ≤ c ∧ c ≤ maxLen ∧ (xs = [] ∨ ∃ b o, a = some ⟨b, o, none⟩ ∧ ∀ j x, xs[j]? = some x → ∀ i u, (f x)[i]? = some u → w.cell? ⟨b, o + j * (f x).length + i, none⟩ = some u)

theorem Row.below {α : Type} {f : α → List Value} {w w' : World} {v : Value} {xs : List α} (h : Row f w v xs) (hb : Below w.heap.size w w') : Row f w' v xs := by
  obtain ⟨a, c, hv, hc, hm, h⟩ := h
  refine ⟨a, c, hv, hc, hm, ?_⟩
  rcases h with h | ⟨b, o, ha, h⟩
  · exact .inl h
  · exact .inr ⟨b, o, ha, fun j x hx i u hu => cell_below hb (h j x hx i u hu)⟩
theorem Row.nil {α : Type} (f : α → List Value) (w : World) : Row f w (.slice none 0 0) [] := ⟨none, 0, rfl, Nat.le_refl _, by unfold maxLen; omega, .inl rfl⟩

/-- A tree that is kept: its name, its key. -/
abbrev Snp := List UInt8 × List UInt8
abbrev snpC (x : Snp) : List Value := [S x.1, S x.2]
abbrev SnpV (x : Snp) : Value := .agg #[S x.1, S x.2]
abbrev SnpRow := Row snpC

theorem snp_cells {w : World} {b o : Nat} {xs : List Snp} (h : ∀ j x, xs[j]? = some x → ∀ i u, (snpC x)[i]? = some u → w.cell? ⟨b, o + j * (snpC x).length + i, none⟩ = some u) {j : Nat} (hj : j < xs.length) :
    w.cell? ⟨b, o + j * 2, none⟩ = some (S xs[j].1) ∧ w.cell? ⟨b, o + j * 2 + 1, none⟩ = some (S xs[j].2) :=
  ⟨h j xs[j] (by simp [hj]) 0 _ rfl, h j xs[j] (by simp [hj]) 1 _ rfl⟩

theorem flat_at : ∀ (xs : List Snp) (j : Nat) (x : Snp) (i : Nat) (u : Value), xs[j]? = some x → (snpC x)[i]? = some u → (xs.flatMap snpC)[j * (snpC x).length + i]? = some u
  | [], j, x, i, u, h, _ => by simp at h
  | y :: ys, 0, x, i, u, h, hu => by
    simp at h; subst h
    rw [List.flatMap_cons, Nat.zero_mul, Nat.zero_add, List.getElem?_append_left (List.getElem?_eq_some_iff.1 hu).1]
    exact hu
  | y :: ys, j + 1, x, i, u, h, hu => by
    have ih := flat_at ys j x i u (by simpa using h) hu
    rw [List.flatMap_cons, List.getElem?_append_right (by simp; omega)]
    rw [← ih]
    congr 1
    simp
    omega
theorem flat_len : ∀ xs : List Snp, (xs.flatMap snpC).length = xs.length * 2
  | [] => rfl
  | y :: ys => by rw [List.flatMap_cons, List.length_append, flat_len ys]; simp; omega

theorem Row.of_owns {w : World} {base e : Nat} {v : Value} {xs : List Snp} (h : w.ownsRow base e 2 v xs.length (xs.flatMap snpC)) : SnpRow w v xs := by
  obtain ⟨_, h⟩ := h
  rcases h with ⟨hv, hn⟩ | ⟨g, cap, cur, hv, _, hh, hc, hm, hs, ht⟩
  · have : xs = [] := List.length_eq_zero_iff.1 hn
    subst this; subst hv; exact Row.nil _ w
  · refine ⟨_, _, hv, hc, hm, .inr ⟨g, 0, rfl, fun j x hx i u hu => ?_⟩⟩
    have h1 : cur.toList[j * (snpC x).length + i]? = some u := by
      have : (cur.toList.take (xs.length * 2))[j * (snpC x).length + i]? = some u := by rw [ht]; exact flat_at xs j x i u hx hu
      rw [List.getElem?_take] at this
      split at this
      · exact this
      · cases this
    simp only [World.cell?, hh]
    simpa using h1
theorem new_cells (w : World) (v u : Value) (e : Nat) : ∀ (j : Nat) x, [v, u][j]? = some x → (w.alloc (.cells #[v, u] e)).cell? ((⟨w.heap.size, 0, none⟩ : Addr).add j) = some x := by
  intro j x hj
  match j, hj with
  | 0, hj => simp at hj; subst hj; simp [Addr.add]
  | 1, hj => simp at hj; subst hj; simp [Addr.add]
theorem new_cell_at {w : World} {b : Nat} (hb : b = w.heap.size) (v : Value) (e : Nat) : ∀ (j : Nat) u, [v][j]? = some u → (w.alloc (.cells #[v] e)).cell? ((⟨b, 0, none⟩ : Addr).add j) = some u := by
  subst hb; exact new_cell w v e
theorem new_cells_at {w : World} {b : Nat} (hb : b = w.heap.size) (v u : Value) (e : Nat) : ∀ (j : Nat) x, [v, u][j]? = some x → (w.alloc (.cells #[v, u] e)).cell? ((⟨b, 0, none⟩ : Addr).add j) = some x := by
  subst hb; exact new_cells w v u e
end Go.Proofs.YtaompdnnkfmjhaaGreatDoor

namespace Go.Proofs.YtaompdnnkfmjhaaGreatDoor
open Go.RowKit

theorem splice_then {α : Type} {L N X : List α} {a m : Nat} (hm : N.length = m) (h : a + m + X.length ≤ L.length) :
    splice (splice L a N) (a + m) X = L.take a ++ (N ++ (X ++ L.drop (a + m + X.length))) := by
  subst hm
  obtain ⟨A, L1, rfl, hA⟩ : ∃ A L1, L = A ++ L1 ∧ A.length = a := ⟨L.take a, L.drop a, by simp, by simp; omega⟩
  obtain ⟨B, L2, rfl, hB⟩ : ∃ B L2, L1 = B ++ L2 ∧ B.length = N.length := ⟨L1.take N.length, L1.drop N.length, by simp, by simp at h ⊢; omega⟩
  obtain ⟨C, D, rfl, hC⟩ : ∃ C D, L2 = C ++ D ∧ C.length = X.length := ⟨L2.take X.length, L2.drop X.length, by simp, by simp at h ⊢; omega⟩
  subst hA
  have e1 : splice (A ++ (B ++ (C ++ D))) A.length N = A ++ (N ++ (C ++ D)) := by
    simp only [splice, List.take_left']
    rw [List.drop_append, List.drop_eq_nil_of_le (by omega), show A.length + N.length - A.length = B.length by omega, List.nil_append, List.drop_left]
  rw [e1]
  have e2 : (A ++ (N ++ (C ++ D))).take (A.length + N.length) = A ++ N := by
    rw [← List.append_assoc, ← List.length_append, List.take_left]
  have e3 : (A ++ (N ++ (C ++ D))).drop (A.length + N.length + X.length) = D := by
    rw [← List.append_assoc, ← List.append_assoc, ← hC, ← List.length_append, ← List.length_append, List.drop_left]
  have e4 : (A ++ (B ++ (C ++ D))).drop (A.length + N.length + X.length) = D := by
    rw [← List.append_assoc, ← List.append_assoc, ← hC, ← hB, ← List.length_append, ← List.length_append, List.drop_left]
  simp only [splice]
  rw [e2, e3, e4, List.take_left, List.append_assoc]

theorem splice_back {α : Type} {L N X : List α} {a m : Nat} (hm : N.length = m) (h : a + m + X.length ≤ L.length) :
    splice (splice L (a + m) X) a N = L.take a ++ (N ++ (X ++ L.drop (a + m + X.length))) := by
  subst hm
  obtain ⟨A, L1, rfl, hA⟩ : ∃ A L1, L = A ++ L1 ∧ A.length = a := ⟨L.take a, L.drop a, by simp, by simp; omega⟩
  obtain ⟨B, L2, rfl, hB⟩ : ∃ B L2, L1 = B ++ L2 ∧ B.length = N.length := ⟨L1.take N.length, L1.drop N.length, by simp, by simp at h ⊢; omega⟩
  obtain ⟨C, D, rfl, hC⟩ : ∃ C D, L2 = C ++ D ∧ C.length = X.length := ⟨L2.take X.length, L2.drop X.length, by simp, by simp at h ⊢; omega⟩
  subst hA
  have e2 : (A ++ (B ++ (C ++ D))).take (A.length + N.length) = A ++ B := by
    rw [← List.append_assoc, ← hB, ← List.length_append, List.take_left]
  have e4 : (A ++ (B ++ (C ++ D))).drop (A.length + N.length + X.length) = D := by
    rw [← List.append_assoc, ← List.append_assoc, ← hC, ← hB, ← List.length_append, ← List.length_append, List.drop_left]
  have e1 : splice (A ++ (B ++ (C ++ D))) (A.length + N.length) X = A ++ (B ++ (X ++ D)) := by
    simp only [splice]
    rw [e2, e4, List.append_assoc]
  rw [e1]
  simp only [splice]
  rw [List.take_left, List.take_left, e4, List.drop_append, List.drop_eq_nil_of_le (by omega), show A.length + N.length - A.length = B.length by omega, List.nil_append, List.drop_left]

section
variable {P : Program}
theorem run_copy_row_k (k : Nat) (w : World) (dT sT ty elem : TypeId) (g o dLen dCap : Nat) (a : Addr) (sLen sCap : Nat) (cur : Array Value) (t : TypeId) (cs : List Value)
    (hu : P.underlying dT = some (.slice elem)) (hs : (P.info? elem).map (·.size) = some k)
    (hg : w.heap[g]? = some (.cells cur t (0, 0))) (hn : cs.length = Nat.min sLen dLen * k)
    (hsrc : ∀ j v, cs[j]? = some v → w.cell? (a.add j) = some v) (hfit : o + cs.length ≤ cur.size) (h1 : ∀ v ∈ cs, v.oneCell' = true) :
    (Builtin.copy_ #[dT, sT] ty #[.slice (some ⟨g, o, none⟩) dLen dCap, .slice (some a) sLen sCap]).run P w =
      .ok (goInt (Nat.min sLen dLen)) (w.setRow g (splice cur.toList o cs).toArray) := by
  have hl := run_loadCells_list (P := P) w a cs hsrc
  have hst := run_storeCells_at P g o t cs 0 cur w hg (by simpa using hfit) h1
  have hsp : cur.toList.take (o + 0) ++ cs ++ cur.toList.drop (o + 0 + cs.length) = splice cur.toList o cs := by simp [splice]
  rw [hsp] at hst
  cases hq : P.info? elem with
  | none => simp [hq] at hs
  | some i =>
    have hi : i.size = k := by simpa [hq] using hs
    simp [Builtin.copy_, run_underlying hu, Builtin.lenOf, Builtin.firstCells, sizeOf, typeInfo, hq, hi, ← hn, hl, hst]

theorem wpList_copy_k (k : Nat) {w : World} {ops : Array Oper} {rest : List Oper} {o : Oper} {a : Act} {Q : Exit → Act → World → Prop} (hgd : o.guard = none) (d s : Operand) (dT sT : TypeId)
    (ho : o.op = .call { callee := .builtin .copy, args := #[d, s], argTypes := #[dT, sT] }) (elem : TypeId) (hu : P.underlying dT = some (.slice elem)) (hsz : (P.info? elem).map (·.size) = some k)
    (g off dLen dCap : Nat) (ad : Addr) (sLen sCap : Nat) (hd : a.eval d = .slice (some ⟨g, off, none⟩) dLen dCap) (hs : a.eval s = .slice (some ad) sLen sCap)
    (cur : List Value) (t : TypeId) (hg : w.heap[g]? = some (.cells cur.toArray t (0, 0))) (cs : List Value) (hn : cs.length = Nat.min sLen dLen * k)
    (hsrc : ∀ j v, cs[j]? = some v → w.cell? (ad.add j) = some v) (hfit : off + cs.length ≤ cur.length) (h1 : ∀ v ∈ cs, v.oneCell' = true) (B : Nat) (w0 : World) (hb : Below B w0 w) (hBg : B ≤ g)
    (h : ∀ w', Hid (w'.heap[g]? = some (.cells (splice cur off cs).toArray t (0, 0))) → Below B w0 w' → (∀ k, k ≠ g → w'.heap[k]? = w.heap[k]?) → wpList P ops Q rest (a.put o.dst (goInt (Nat.min sLen dLen))) w') :
    wpList P ops Q (o :: rest) a w := by
  refine wpList_plain hgd fun K hK => ?_
  have hrun := run_copy_row_k (P := P) k w dT sT o.type elem g off dLen dCap ad sLen sCap cur.toArray t cs hu hsz hg hn hsrc (by simpa using hfit) h1
  unfold Oper.wp
  simp [execOp, ho, resolve, invoke, builtin, hd, hs, hrun, Result.andThen]
  exact hK _ _ (h _ (show _ = _ by simpa using setRow_heap w g _ _ t _ hg) (below_setRow hb hBg _) (fun k hk => setRow_other w g k _ hk))

theorem step_copy_k (k : Nat) {ops : Array Oper} {o : Oper} {a : Act} {w : World} {K : Act → World → Prop} {Q : Exit → Act → World → Prop} {E : Prop} (hgd : o.guard = none) (d s : Operand) (dT sT : TypeId)
    (ho : o.op = .call { callee := .builtin .copy, args := #[d, s], argTypes := #[dT, sT] }) (elem : TypeId) (hu : P.underlying dT = some (.slice elem)) (hsz : (P.info? elem).map (·.size) = some k)
    (g off dLen dCap : Nat) (ad : Addr) (sLen sCap : Nat) (hd : a.eval d = .slice (some ⟨g, off, none⟩) dLen dCap) (hs : a.eval s = .slice (some ad) sLen sCap)
    (cur : List Value) (t : TypeId) (hg : w.heap[g]? = some (.cells cur.toArray t (0, 0))) (cs : List Value) (hn : cs.length = Nat.min sLen dLen * k)
    (hsrc : ∀ j v, cs[j]? = some v → w.cell? (ad.add j) = some v) (hfit : off + cs.length ≤ cur.length) (h1 : ∀ v ∈ cs, v.oneCell' = true) (B : Nat) (w0 : World) (hb : Below B w0 w) (hBg : B ≤ g)
    (h : ∀ w', Hid (w'.heap[g]? = some (.cells (splice cur off cs).toArray t (0, 0))) → Below B w0 w' → (∀ k, k ≠ g → w'.heap[k]? = w.heap[k]?) → K (a.put o.dst (goInt (Nat.min sLen dLen))) w') :
    if Region.wanted o (yielded ops a.tmps) = true then Oper.wp P o a w K Q else E := by
  have hw : Region.wanted o (yielded ops a.tmps) = true := by simp [Region.wanted, hgd]
  rw [if_pos hw]
  have hrun := run_copy_row_k (P := P) k w dT sT o.type elem g off dLen dCap ad sLen sCap cur.toArray t cs hu hsz hg hn hsrc (by simpa using hfit) h1
  unfold Oper.wp
  simp [execOp, ho, resolve, invoke, builtin, hd, hs, hrun, Result.andThen]
  exact h _ (show _ = _ by simpa using setRow_heap w g _ _ t _ hg) (below_setRow hb hBg _) (fun k hk => setRow_other w g k _ hk)

theorem run_clear_k (k : Nat) (w : World) (t e ty : TypeId) (i0 : TypeInfo) (z : Value) (ht : P.underlying t = some (.slice e)) (hi : P.info? e = some i0) (hz : i0.zero = some z) (hk : z.cells.size = k) (h1 : ∀ v ∈ z.cells, v.oneCell' = true)
    (g o n c : Nat) (cur : Array Value) (et : TypeId) (hg : w.heap[g]? = some (.cells cur et (0, 0))) (hfit : o + n * k ≤ cur.size) (hkp : 0 < k) :
    ∃ zs : List Value, zs.length = n * k ∧ (Builtin.clear_ #[t] ty #[.slice (some ⟨g, o, none⟩) n c]).run P w = .ok (.tuple #[]) (w.setRow g (splice cur.toList o zs).toArray) := by
  by_cases hn : n = 0
  · subst hn
    refine ⟨[], by simp, ?_⟩
    have hs : (splice cur.toList o []).toArray = cur := by simp [splice]
    rw [hs, setRow_self w g cur et (0, 0) hg]
    simp [Builtin.clear_, run_underlying ht]
  · obtain ⟨m, rfl⟩ : ∃ m, n = m + 1 := ⟨n - 1, by omega⟩
    have hl : (Builtin.zeroCells z.cells (m + 1)).toList.length = (m + 1) * k := by simp [size_zeroCells, hk]
    have hst := run_storeCells_at P g o et (Builtin.zeroCells z.cells (m + 1)).toList 0 cur w hg (by rw [hl]; simpa using hfit) (by
      intro v hv
      simp only [Builtin.zeroCells, Array.toList_map, List.mem_map] at hv
      obtain ⟨a, ha, rfl⟩ := hv
      have hlt : a % z.cells.size < z.cells.size := Nat.mod_lt _ (by omega)
      rw [getElem!_pos z.cells _ hlt]
      exact h1 _ (Array.getElem_mem _))
    have hsp : cur.toList.take (o + 0) ++ (Builtin.zeroCells z.cells (m + 1)).toList ++ cur.toList.drop (o + 0 + (Builtin.zeroCells z.cells (m + 1)).toList.length) = splice cur.toList o (Builtin.zeroCells z.cells (m + 1)).toList := by simp [splice]
    rw [hsp] at hst
    refine ⟨_, hl, ?_⟩
    have hv : (zeroValue e).run P w = .ok z w := by simp [zeroValue, typeInfo, hi, hz]
    simp [Builtin.clear_, run_underlying ht, hv, hst]

theorem wpList_clear_k (k : Nat) {w : World} {ops : Array Oper} {rest : List Oper} {o : Oper} {a : Act} {Q : Exit → Act → World → Prop} (hgd : o.guard = none) (s : Operand) (t : TypeId)
    (ho : o.op = .call { callee := .builtin .clear, args := #[s], argTypes := #[t] }) (e : TypeId) (i0 : TypeInfo) (z : Value) (ht : P.underlying t = some (.slice e)) (hi : P.info? e = some i0) (hz : i0.zero = some z) (hk : z.cells.size = k) (h1 : ∀ v ∈ z.cells, v.oneCell' = true)
    (g off n c : Nat) (hs : a.eval s = .slice (some ⟨g, off, none⟩) n c) (cur : List Value) (et : TypeId) (hg : w.heap[g]? = some (.cells cur.toArray et (0, 0))) (hfit : off + n * k ≤ cur.length) (hkp : 0 < k) (B : Nat) (w0 : World) (hb : Below B w0 w) (hBg : B ≤ g)
    (h : ∀ w' zs, zs.length = n * k → Hid (w'.heap[g]? = some (.cells (splice cur off zs).toArray et (0, 0))) → Below B w0 w' → wpList P ops Q rest (a.put o.dst (.tuple #[])) w') :
    wpList P ops Q (o :: rest) a w := by
  refine wpList_plain hgd fun K hK => ?_
  obtain ⟨zs, hzl, hrun⟩ := run_clear_k (P := P) k w t e o.type i0 z ht hi hz hk h1 g off n c cur.toArray et hg (by simpa using hfit) hkp
  unfold Oper.wp
  simp [execOp, ho, resolve, invoke, builtin, hs, hrun, Result.andThen]
  exact hK _ _ (h _ zs hzl (show _ = _ by simpa using setRow_heap w g _ _ et _ hg) (below_setRow hb hBg _))
end

theorem heap_set_cell {w : World} {g o : Nat} {cur : Array Value} {t : TypeId} {fz : Nat × Nat} (hg : w.heap[g]? = some (.cells cur t fz)) (v : Value) : (w.setCell ⟨g, o, none⟩ v).heap[g]? = some (.cells (cur.setIfInBounds o v) t fz) := by
  simp [World.setCell, Array.getElem?_modify, hg]
/-- Cells laid one by one. -/
def setAll (cur : Array Value) (o : Nat) : List Value → Array Value
  | [] => cur
  | v :: vs => setAll (cur.setIfInBounds o v) (o + 1) vs
theorem setAll_splice : ∀ (vs : List Value) (cur : Array Value) (o : Nat), o + vs.length ≤ cur.size → (setAll cur o vs).toList = splice cur.toList o vs
  | [], cur, o, _ => by simp [setAll, splice]
  | v :: vs, cur, o, h => by
    simp only [List.length_cons] at h
    rw [setAll, setAll_splice vs _ _ (by simp; omega)]
    obtain ⟨A, D, hL, hA⟩ : ∃ A D, cur.toList = A ++ D ∧ A.length = o := ⟨cur.toList.take o, cur.toList.drop o, by simp, by simp; omega⟩
    simp only [Array.toList_setIfInBounds, splice, hL]
    have hlen : cur.size = A.length + D.length := by rw [← Array.length_toList, hL, List.length_append]
    cases D with
    | nil => simp at hlen; omega
    | cons d D =>
      subst hA
      rw [List.set_append_right _ _ (Nat.le_refl _), Nat.sub_self, List.set_cons_zero]
      have hd : ∀ x, (A ++ x :: D).drop (A.length + 1 + vs.length) = D.drop vs.length := by
        intro x
        rw [List.drop_append, List.drop_eq_nil_of_le (by omega), List.nil_append, show A.length + 1 + vs.length - A.length = vs.length + 1 by omega, List.drop_succ_cons]
      rw [show A.length + (v :: vs).length = A.length + 1 + vs.length by simp; omega, hd, hd, List.take_left]
      rw [show A ++ v :: D = (A ++ [v]) ++ D by simp, show A.length + 1 = (A ++ [v]).length by simp, List.take_left]
      simp
theorem take_splice {L N : List Value} {a : Nat} (h : a + N.length ≤ L.length) : (splice L a N).take (a + N.length) = L.take a ++ N := by
  unfold splice
  rw [← List.append_assoc, List.take_left' (by simp; omega)]
theorem drop_splice {L N : List Value} {a d : Nat} (h : a + N.length ≤ L.length) (hd : a + N.length ≤ d) : (splice L a N).drop d = L.drop d := by
  unfold splice
  rw [← List.append_assoc, List.drop_append, List.drop_eq_nil_of_le (by simp; omega), List.nil_append, List.drop_drop]
  congr 1
  simp; omega
/-- What a block holds, cell by cell. -/
theorem heap_cell {w : World} {g j : Nat} {cur : Array Value} {t : TypeId} {fz : Nat × Nat} (hg : w.heap[g]? = some (.cells cur t fz)) {v : Value} (h : cur[j]? = some v) : w.cell? ⟨g, j, none⟩ = some v := by
  simp only [World.cell?, hg]; simpa using h
theorem heap_free {w : World} {g : Nat} {cur : Array Value} {t : TypeId} (hg : w.heap[g]? = some (.cells cur t (0, 0))) (j : Nat) : w.frozen? ⟨g, j, none⟩ = false := by
  simp [World.frozen?, hg]

/-- The first place at which p holds; -1: none. -/
def idxP {α : Type} (p : α → Bool) : List α → Int
  | [] => -1
  | x :: l => if p x then 0 else if idxP p l = -1 then -1 else idxP p l + 1
theorem idxP_none {α : Type} {p : α → Bool} : ∀ {l : List α}, (∀ x ∈ l, p x = false) → idxP p l = -1
  | [], _ => rfl
  | x :: l, h => by rw [idxP, h x List.mem_cons_self, idxP_none (fun y hy => h y (List.mem_cons_of_mem _ hy))]; simp
theorem idxP_at {α : Type} {p : α → Bool} : ∀ {l : List α} {k : Nat} (h : k < l.length), (∀ x ∈ l.take k, p x = false) → p l[k] = true → idxP p l = k
  | [], _, h, _, _ => by simp at h
  | x :: l, 0, _, _, hp => by rw [idxP]; simp at hp; simp [hp]
  | x :: l, k + 1, h, ha, hp => by
    have ih := idxP_at (l := l) (k := k) (by simpa using h) (fun y hy => ha y (by simp [hy])) (by simpa using hp)
    rw [idxP, ha x (by simp), ih]
    have : ¬ ((k : Int) = -1) := by omega
    simp [this]
theorem none_step {α : Type} {p : α → Bool} {l : List α} {k : Nat} (h : k < l.length) (ha : ∀ x ∈ l.take k, p x = false) (hp : p l[k] = false) : ∀ x ∈ l.take (k + 1), p x = false := by
  intro x hx
  rw [List.take_succ_eq_append_getElem h, List.mem_append] at hx
  rcases hx with hx | hx
  · exact ha x hx
  · simp at hx; rw [hx]; exact hp
theorem idxP_cases {α : Type} (p : α → Bool) : ∀ l : List α, (idxP p l = -1 ∧ ∀ x ∈ l, p x = false) ∨ ∃ k, ∃ h : k < l.length, idxP p l = (k : Int) ∧ (∀ x ∈ l.take k, p x = false) ∧ p l[k] = true
  | [] => .inl ⟨rfl, by simp⟩
  | x :: l => by
    cases hx : p x with
    | true => exact .inr ⟨0, by simp, by rw [idxP, hx]; rfl, by simp, by simpa using hx⟩
    | false =>
      rcases idxP_cases p l with ⟨h1, h2⟩ | ⟨k, hk, h1, h2, h3⟩
      · refine .inl ⟨by rw [idxP, hx, h1]; simp, ?_⟩
        intro y hy
        rcases List.mem_cons.1 hy with rfl | hy
        · exact hx
        · exact h2 y hy
      · refine .inr ⟨k + 1, by simpa using hk, ?_, ?_, by simpa using h3⟩
        · have : ¬ ((k : Int) = -1) := by omega
          rw [idxP, hx, h1]; simp [this]
        · intro y hy
          rw [List.take_succ_cons] at hy
          rcases List.mem_cons.1 hy with rfl | hy
          · exact hx
          · exact h2 y hy
theorem filter_all {α : Type} {p : α → Bool} {l : List α} (h : ∀ x ∈ l, p x = false) : l.filter (fun x => !p x) = l := by
  rw [List.filter_eq_self]; intro x hx; simp [h x hx]
theorem filter_step {α : Type} {p : α → Bool} {l : List α} {k : Nat} (h : k < l.length) : (l.take (k + 1)).filter (fun x => !p x) = (l.take k).filter (fun x => !p x) ++ (if p l[k] then [] else [l[k]]) := by
  rw [List.take_succ_eq_append_getElem h, List.filter_append]
  cases hp : p l[k] <;> simp [hp]

section
variable {α : Type} {f : α → List Value} {K : Nat}
theorem flat_lenK (hf : ∀ x, (f x).length = K) : ∀ l : List α, (l.flatMap f).length = l.length * K
  | [] => by simp
  | x :: l => by rw [List.flatMap_cons, List.length_append, flat_lenK hf l, hf, List.length_cons, Nat.add_mul]; omega
theorem flat_take (hf : ∀ x, (f x).length = K) : ∀ (l : List α) (j : Nat), (l.flatMap f).take (j * K) = (l.take j).flatMap f
  | [], j => by simp
  | x :: l, 0 => by simp
  | x :: l, j + 1 => by
    rw [List.flatMap_cons, List.take_succ_cons, List.flatMap_cons, ← flat_take hf l j, Nat.add_mul, Nat.one_mul, Nat.add_comm, ← hf x, List.take_length_add_append]
theorem flat_drop (hf : ∀ x, (f x).length = K) : ∀ (l : List α) (j : Nat), (l.flatMap f).drop (j * K) = (l.drop j).flatMap f
  | [], j => by simp
  | x :: l, 0 => by simp
  | x :: l, j + 1 => by
    rw [List.flatMap_cons, List.drop_succ_cons, ← flat_drop hf l j, Nat.add_mul, Nat.one_mul, Nat.add_comm, ← hf x, List.drop_length_add_append]
theorem rest_start (hf : ∀ x, (f x).length = K) {l : List α} {L : List Value} (h : L.take (l.length * K) = l.flatMap f) (b : Nat) : (L.drop (b * K)).take ((l.length - b) * K) = (l.drop b).flatMap f := by
  rw [← flat_drop hf, ← h, List.drop_take, Nat.sub_mul]
theorem head_start (hf : ∀ x, (f x).length = K) {l : List α} {L : List Value} (h : L.take (l.length * K) = l.flatMap f) {b : Nat} (hb : b ≤ l.length) : L.take (b * K) = (l.take b).flatMap f := by
  rw [← flat_take hf, ← h, List.take_take, Nat.min_eq_left (Nat.mul_le_mul_right _ hb)]
theorem rest_at (hf : ∀ x, (f x).length = K) {l : List α} {L : List Value} {b : Nat} (hb : b < l.length) (h : (L.drop (b * K)).take ((l.length - b) * K) = (l.drop b).flatMap f) : ∀ i u, (f l[b])[i]? = some u → L[b * K + i]? = some u := by
  intro i u hu
  have hi : i < K := by rw [← hf l[b]]; exact (List.getElem?_eq_some_iff.1 hu).1
  have h2 : ((L.drop (b * K)).take ((l.length - b) * K))[i]? = some u := by
    rw [h, List.drop_eq_getElem_cons hb, List.flatMap_cons, List.getElem?_append_left (by rw [hf]; exact hi)]
    exact hu
  rw [List.getElem?_take] at h2
  split at h2
  · rwa [List.getElem?_drop] at h2
  · cases h2
theorem rest_on (hf : ∀ x, (f x).length = K) {l : List α} {L : List Value} {b : Nat} (hb : b < l.length) (h : (L.drop (b * K)).take ((l.length - b) * K) = (l.drop b).flatMap f) : (L.drop ((b + 1) * K)).take ((l.length - (b + 1)) * K) = (l.drop (b + 1)).flatMap f := by
  have h2 := congrArg (List.drop K) h
  rw [List.drop_take, List.drop_drop, List.drop_eq_getElem_cons hb, List.flatMap_cons, ← hf l[b], List.drop_left, hf] at h2
  rw [← h2]
  congr 1
  · rw [Nat.sub_mul, Nat.sub_mul, Nat.add_mul]; omega
  · rw [Nat.add_mul]; congr 1; omega
end
/-- Whatever lay in w lies as it lay, but for v's own row. -/
def Rest (v : Value) (w w' : World) : Prop := ∀ k, k < w.heap.size → v.ownBlock ≠ some k → w'.heap[k]? = w.heap[k]?
theorem heap_has {w : World} {g j : Nat} {cur : Array Value} {t : TypeId} {fz : Nat × Nat} (hg : w.heap[g]? = some (.cells cur t fz)) (h : j < cur.size) : ∃ u, w.cell? ⟨g, j, none⟩ = some u :=
  ⟨cur[j], heap_cell hg (by simp [h])⟩
theorem heap_later {w w' : World} {g B : Nat} {o : Obj} (hg : w.heap[g]? = some o) (hb : Below B w w') (hB : g < B) : w'.heap[g]? = some o := (hb.block g hB).trans hg
theorem heap_lt {w : World} {g : Nat} {o : Obj} (hg : w.heap[g]? = some o) : g < w.heap.size := by
  rcases Nat.lt_or_ge g w.heap.size with h | h
  · exact h
  · rw [Array.getElem?_eq_none h] at hg; cases hg
end Go.Proofs.YtaompdnnkfmjhaaGreatDoor

namespace Go.Proofs.YtaompdnnkfmjhaaGreatDoor
open Go.RowKit Go.Maps
open Go.WideElems (Fit rd rg pl rd_val elemAt)

noncomputable abbrev RI : Value → Option (DataW Unit × List MemPlace) := plainElem Tryz.prog 3
theorem keyedS : Keyed Tryz.prog 9 := string_keyed Tryz.underlying9
theorem keyOfS {k : List UInt8} (h : k.length ≤ maxLen) : keyOf Tryz.prog 9 (S k) = some (.string k) := by
  have h2 : (⟨k.toArray⟩ : ByteArray).size ≤ maxLen := by simpa [ByteArray.size] using h
  simp [keyOf, Tryz.underlying9, mapKey, h2]
theorem zeroInt (w : World) : (zeroValue 3).run Tryz.prog w = .ok (.int .i64 0) w := by kernel_rfl
/-- Block b is a map of at most N entries: F. -/
def IMap (w : World) (b N : Nat) (F : List UInt8 → Option Int) : Prop :=
  ∃ D : DataW Unit, w.ownsMap Tryz.prog 9 RI b N D ∧ IsMap D ∧ (∀ k, has D (.string k) = (F k).isSome) ∧ ∀ k c, F k = some c → ∀ z, D.atKey (.string k) z = .lit (.int .i64 c)
section
variable {w w' : World} {b N : Nat} {F : List UInt8 → Option Int}
theorem IMap.made (w : World) : IMap (w.alloc (.map #[] 0)) w.heap.size 0 (fun _ => none) := ⟨.map [], World.ownsMap_made w _ _ _, ⟨[], rfl⟩, fun k => rfl, fun k c h => by cases h⟩
theorem IMap.lt (h : IMap w b N F) : b < w.heap.size := by obtain ⟨D, h1, _⟩ := h; exact h1.lt
theorem IMap.grown (h : IMap w b N F) {row : Option Nat} (hg : w.grownBy w' row) (hne : some b ≠ row) : IMap w' b N F := by
  obtain ⟨D, h1, h2⟩ := h
  exact ⟨D, h1.kept hg hne, h2⟩
theorem IMap.block (h : IMap w b N F) (hb : w'.heap[b]? = w.heap[b]?) : IMap w' b N F := by
  obtain ⟨D, ⟨es, clock, h1, h2⟩, h3⟩ := h
  exact ⟨D, ⟨es, clock, hb.trans h1, h2⟩, h3⟩
theorem IMap.kept (h : IMap w b N F) (hb : Below w.heap.size w w') : IMap w' b N F := h.block (hb.block b h.lt)
theorem IMap.mono (h : IMap w b N F) {M : Nat} (hn : N ≤ M) : IMap w b M F := by
  obtain ⟨D, h1, h2⟩ := h
  exact ⟨D, h1.mono hn, h2⟩
theorem IMap.look2 (h : IMap w b N F) {k : List UInt8} (hk : k.length ≤ maxLen) (c : Bool) :
    (Instr.lookup 67 (.map (some b)) (S k) c).run Tryz.prog w = .ok (if c then .tuple #[.int .i64 ((F k).getD 0), .bool (F k).isSome] else .int .i64 ((F k).getD 0)) w := by
  obtain ⟨D, ⟨es, clock, hb, Ft, hs, rfl⟩, h2, h3, h4⟩ := h
  rcases Maps.fit_look c keyedS Tryz.underlying67 (zeroInt w) hb Ft (keyOfS hk) with ⟨hrun, _, hat⟩ | ⟨e0, y, _, _, hrun, hRv, hat, _⟩
  · have hn : F k = none := by
      have := h3 k
      rw [has_false_of_atKey hat] at this
      cases hf : F k with
      | none => rfl
      | some c => rw [hf] at this; cases this
    rw [hrun, hn]; rfl
  · have hh := h3 k
    rw [has_true_of_atKey hat] at hh
    cases hf : F k with
    | none => rw [hf] at hh; cases hh
    | some cv =>
      have h5 := h4 k cv hf (.lit (.int .i64 0))
      rw [hat] at h5
      obtain ⟨a, ha, hz, _⟩ := plainElem_int_inv Tryz.underlying3 hRv
      rw [hz] at h5
      simp only [DataW.lit.injEq, Lit.int.injEq, true_and] at h5
      rw [hrun, ha, h5]
      rfl
theorem IMap.look (h : IMap w b N F) {k : List UInt8} (hk : k.length ≤ maxLen) : (Instr.lookup 67 (.map (some b)) (S k) false).run Tryz.prog w = .ok (.int .i64 ((F k).getD 0)) w := h.look2 hk false
theorem IMap.lookOk (h : IMap w b N F) {k : List UInt8} (hk : k.length ≤ maxLen) : (Instr.lookup 67 (.map (some b)) (S k) true).run Tryz.prog w = .ok (.tuple #[.int .i64 ((F k).getD 0), .bool (F k).isSome]) w := h.look2 hk true
theorem IMap.update (h : IMap w b N F) {k : List UInt8} (hk : k.length ≤ maxLen) (hN : N < maxLen) {c : Int} (hc : (Lit.int .i64 c).wf = true) :
    ∃ w', (Instr.mapUpdate 67 (.map (some b)) (S k) (.int .i64 c)).run Tryz.prog w = .ok () w' ∧ IMap w' b (N + 1) (fun k' => if k' = k then some c else F k') ∧ w.grownBy w' (some b) := by
  obtain ⟨D, h1, h2, h3, h4⟩ := h
  obtain ⟨w', hrun, hown, hg⟩ := h1.update keyedS Tryz.underlying67 hN (keyOfS hk) (plainElem_int Tryz.underlying3 hc)
  have hkl : WideAt.IsKeyLit (Lit.string k) := keyedS.key (keyOfS hk)
  refine ⟨w', hrun, ⟨_, hown, h2.put _ _, fun k' => ?_, fun k' c' hk' z => ?_⟩, hg⟩
  · by_cases e : k' = k
    · subst e
      rw [has_put_same h2 hkl]; simp
    · rw [has_put_other (fun e2 => e (by injection e2)), h3]; simp [e]
  · by_cases e : k' = k
    · subst e
      simp only [if_true, Option.some.injEq] at hk'
      subst hk'
      exact atKey_put_same h2 hkl _ _
    · simp only [if_neg e] at hk'
      rw [atKey_put_other (fun e2 => e (by injection e2))]
      exact h4 k' c' hk' z
/-- The map's keys, sorted. -/
theorem IMap.keys {D : DataW Unit} (h1 : w.ownsMap Tryz.prog 9 RI b N D) (h3 : ∀ k, has D (.string k) = (F k).isSome) {ss : List (List UInt8)} (hp : ss.Perm (strKeys D)) :
    upS (ss.mergeSort (fun x y => decide (x ≤ y))) ∧ (∀ k, k ∈ ss.mergeSort (fun x y => decide (x ≤ y)) ↔ (F k).isSome = true) ∧ ss.length ≤ N ∧ ∀ k ∈ ss.mergeSort (fun x y => decide (x ≤ y)), k.length ≤ maxLen := by
  obtain ⟨es0, clock, hb, Ft, hs, hD⟩ := h1
  have hapart := Maps.fit_apart keyedS Ft
  have hall : ∀ p ∈ es0.toList.map (rg Tryz.prog 9 RI), ∃ x, p.1 = .string x ∧ x.length ≤ maxLen := fun p hp2 => by
    obtain ⟨v, hv⟩ := fit_keys Ft p hp2
    obtain ⟨x, _, hx, hl⟩ := Maps.keyOf_str Tryz.underlying9 hv
    exact ⟨x, hx, hl⟩
  subst hD
  have hL : (es0.toList.map (rg Tryz.prog 9 RI)).length ≤ N := by rw [List.length_map]; exact hs
  generalize es0.toList.map (rg Tryz.prog 9 RI) = L at hapart hall h3 hp hL
  have hpm : (L.foldr DataW.insert []).Perm L := Go.WideShapes.sorted_perm L
  generalize L.foldr DataW.insert [] = E at *
  have hE1 : E.Pairwise (fun p q => p.1 ≠ q.1) := hpm.symm.pairwise hapart (fun h e => h e.symm)
  have hE2 : ∀ p ∈ E, ∃ x, p.1 = .string x ∧ x.length ≤ maxLen := fun p hp2 => hall p (hpm.mem_iff.1 hp2)
  have hnd : (strKeys (.map E)).Nodup := by
    show (E.map fun p => strOf p.1).Nodup
    refine List.pairwise_map.2 (hE1.imp_of_mem fun {p q} hp' hq' hne e => hne ?_)
    obtain ⟨a, ha, -⟩ := hE2 p hp'
    obtain ⟨b, hb, -⟩ := hE2 q hq'
    rw [ha, hb] at e ⊢
    exact congrArg _ e
  have hmem : ∀ x, x ∈ strKeys (.map E) ↔ (F x).isSome = true := fun x => by
    rw [← h3 x, has_eq, List.any_eq_true]
    show x ∈ E.map (fun p => strOf p.1) ↔ _
    rw [List.mem_map]
    constructor
    · rintro ⟨p, hp', rfl⟩
      obtain ⟨a, ha, -⟩ := hE2 p hp'
      exact ⟨p, hp', by rw [ha]; simp [Lit.sameKey, strOf]⟩
    · rintro ⟨p, hp', hs⟩
      obtain ⟨a, ha, -⟩ := hE2 p hp'
      rw [ha] at hs
      exact ⟨p, hp', by rw [ha]; simpa [Lit.sameKey, strOf] using hs⟩
  have hms := List.mergeSort_perm ss (fun x y : List UInt8 => decide (x ≤ y))
  have tr : ∀ a b c : List UInt8, decide (a ≤ b) = true → decide (b ≤ c) = true → decide (a ≤ c) = true := fun a b c h1 h2 => by simp only [decide_eq_true_eq] at *; exact List.le_trans h1 h2
  have to : ∀ a b : List UInt8, (decide (a ≤ b) || decide (b ≤ a)) = true := fun a b => by simp only [Bool.or_eq_true, decide_eq_true_eq]; exact List.le_total a b
  refine ⟨?_, fun k => by rw [hms.mem_iff, hp.mem_iff, hmem], ?_, fun k hk => ?_⟩
  · have h5 := List.pairwise_mergeSort tr to ss
    have h6 : (ss.mergeSort (fun x y => decide (x ≤ y))).Nodup := (hms.trans hp).nodup_iff.2 hnd
    refine List.Pairwise.imp ?_ (h5.and h6)
    rintro a b ⟨h7, h8⟩
    simp only [decide_eq_true_eq] at h7
    exact Classical.byContradiction fun h9 => h8 (List.le_antisymm h7 (List.not_lt.1 h9))
  · have h7 := hp.length_eq
    have h8 : (strKeys (.map E)).length = E.length := List.length_map _
    have h9 := hpm.length_eq
    omega
  · have h10 : k ∈ strKeys (.map E) := hp.mem_iff.1 (hms.mem_iff.1 hk)
    obtain ⟨p, hp', rfl⟩ := List.mem_map.1 (show k ∈ E.map (fun p => strOf p.1) from h10)
    obtain ⟨a, ha, hl⟩ := hE2 p hp'
    rw [ha]; exact hl
end
end Go.Proofs.YtaompdnnkfmjhaaGreatDoor
