/- The program's Crash. -/
import Derived.Test.YthjoaoakadaieaaOpsIt
import Derived.Test.YthjoaoakadaieaaPLay
import Derived.Test.YthjoaoakadaieaaTailIn
import Derived.Laws.OwnMore
import Derived.RangeFuncBox
namespace Go.Proofs.Ythjoaoakadaieaa
open Go.RowKit
attribute [local go_sem] Oper.semAt_some

/-- A file of which nothing may be lost. -/
def bare (x : DF) : DF := ⟨x.name, x.data, .slice none 0 0, []⟩
abbrev boolC (b : Bool) : List Value := [.bool b]

theorem new_cells3_at {w : World} {b : Nat} (hb : b = w.heap.size) (v u x : Value) (e : Nat) : ∀ (j : Nat) y, [v, u, x][j]? = some y → (w.alloc (.cells #[v, u, x] e)).cell? ((⟨b, 0, none⟩ : Addr).add j) = some y := by
  subst hb; exact new_cells3 w v u x e
theorem own_count {w : World} {B e K n m c : Nat} {a : Option Addr} {xs : List Value} (h : w.ownsRow B e K (.slice a m c) n xs) : m = n := by
  rcases h.2 with ⟨h1, h2⟩ | ⟨g, cap, cur, h1, _⟩
  · cases h1; exact h2.symm
  · cases h1; rfl
theorem bares_succ {l : List DF} {k : Nat} (h : k < l.length) : (l.take (k + 1)).map bare = (l.take k).map bare ++ [bare l[k]] := by
  rw [List.take_succ_eq_append_getElem h, List.map_append]; rfl

def upd (st : List DF) (i : Nat) (o : Opn) : List DF := match st[i]? with
  | some f => st.set i ⟨f.name, layO f.data o, f.ov, f.ops⟩
  | none => st
/-- One round: what may be lost is kept, or not. -/
def stepC (st : List DF × List Bool) (x : Nat × Opn) : List DF × List Bool := (if st.2.headD false = true then upd st.1 x.1 x.2 else st.1, st.2.tail)
def stC (l : List DF) (ks : List Bool) (pre : List (Nat × Opn)) : List DF × List Bool := pre.foldl stepC (l.map bare, ks)
theorem stC_snoc (l : List DF) (ks : List Bool) (pre : List (Nat × Opn)) (x : Nat × Opn) : stC l ks (pre ++ [x]) = stepC (stC l ks pre) x := by
  unfold stC; rw [List.foldl_append]; rfl
def Sound (f : DF) : Prop := f.ov = .slice none 0 0 ∧ f.ops = [] ∧ f.data.length ≤ 262144
theorem upd_len (st : List DF) (i : Nat) (o : Opn) : (upd st i o).length = st.length := by
  unfold upd; split <;> simp
theorem upd_sound {st : List DF} {i : Nat} {o : Opn} (h : ∀ f ∈ st, Sound f) (ho : badO o = false) : ∀ f ∈ upd st i o, Sound f := by
  unfold upd
  split
  · rename_i g hg
    intro f hf
    rcases List.mem_or_eq_of_mem_set hf with hf | rfl
    · exact h f hf
    · obtain ⟨h1, h2, h3⟩ := h g (List.mem_of_getElem? hg)
      exact ⟨h1, h2, layO_len h3 ho⟩
  · exact h
theorem stepC_inv {l : List DF} {st : List DF × List Bool} {x : Nat × Opn} (h : st.1.length = l.length ∧ ∀ f ∈ st.1, Sound f) (ho : badO x.2 = false) : (stepC st x).1.length = l.length ∧ ∀ f ∈ (stepC st x).1, Sound f := by
  unfold stepC
  simp only
  split
  · exact ⟨by rw [upd_len]; exact h.1, upd_sound h.2 ho⟩
  · exact h
theorem opsTo_mem {l : List DF} {x : Nat × Opn} : ∀ {k : Nat}, x ∈ opsTo l k → ∃ h : x.1 < l.length, x.2 ∈ l[x.1].ops
  | 0, h => by simp [opsTo] at h
  | k + 1, h => by
    rw [opsTo_succ, List.mem_append] at h
    rcases h with h | h
    · exact opsTo_mem h
    · obtain ⟨o, ho, rfl⟩ := List.mem_map.1 h
      unfold opsAt at ho
      split at ho
      · rename_i f hf
        have := List.getElem?_eq_some_iff.1 hf
        obtain ⟨h1, rfl⟩ := this
        exact ⟨h1, ho⟩
      · cases ho

theorem row_tail {w : World} {b o : Nat} {kd : Nat} {kh : Bool} {kt : List Bool} (hx : ∀ j x, (kh :: kt)[j]? = some x → ∀ i u, (boolC x)[i]? = some u → w.cell? ⟨b, o + j * (boolC x).length + i, none⟩ = some u) (h1 : (kh :: kt).length ≤ kd) (h2 : kd ≤ maxLen) :
    Row boolC w (.slice (some ⟨b, o + 1, none⟩) kt.length (kd - 1)) kt := by
  refine ⟨_, _, rfl, by simp at h1; omega, by omega, .inr ⟨_, _, rfl, fun j x hj i u hu => ?_⟩⟩
  have h := hx (j + 1) x (by simpa using hj) i u hu
  rw [show o + 1 + j * (boolC x).length + i = o + (j + 1) * (boolC x).length + i by simp; omega]
  exact h
theorem row_gone {w : World} {a : Option Addr} {kt : List Bool} (h : kt.length = 0) : Row boolC w (.slice a kt.length 0) kt := by
  have : kt = [] := List.length_eq_zero_iff.1 h
  subst this
  exact ⟨_, _, rfl, Nat.le_refl _, by unfold maxLen; omega, .inl rfl⟩
theorem flat_set1 : ∀ {l : List DF} {k : Nat} {d : List UInt8} (h : k < l.length), (l.flatMap dfC).set (k * 3 + 1) (S d) = (l.set k ⟨l[k].name, d, l[k].ov, l[k].ops⟩).flatMap dfC
  | [], _, _, h => by simp at h
  | x :: xs, 0, d, _ => by simp
  | x :: xs, k + 1, d, h => by
    have ih := flat_set1 (l := xs) (k := k) (d := d) (by simpa using h)
    rw [List.set_cons_succ, List.flatMap_cons, List.flatMap_cons, List.getElem_cons_succ, ← ih]
    simp only [dfC, List.cons_append, List.nil_append, show (k + 1) * 3 + 1 = (k * 3 + 1) + 3 by omega, List.set_cons_succ]
theorem upd_at {st : List DF} {i : Nat} (o : Opn) (h : i < st.length) : upd st i o = st.set i ⟨st[i].name, layO st[i].data o, st[i].ov, st[i].ops⟩ := by
  unfold upd; rw [List.getElem?_eq_getElem h]
theorem keeps_below {W W' : World} (h : Below W.heap.size W W') (B : Nat) : KeepsFrom B W W' := ⟨h.size, fun k o _ hk _ => (h.block k (heap_lt hk)).trans hk⟩

theorem cells_turn {N : Nat} {A B : World} {row : Option Nat} {k : Nat} {cs : Array Value} {t : TypeId} {fz : Nat × Nat} (h : A.heap[k]? = some (.cells cs t fz)) (hg : A.grownBy B row) (hr : ∀ r, row = some r → False ∨ (N ≤ r ∧ ∃ o : Obj, A.heap[r]? = some o ∧ o.isCells = false)) : B.heap[k]? = some (.cells cs t fz) := by
  refine (hg.block k (heap_lt h) (fun e => ?_)).trans h
  rcases hr k e.symm with h1 | ⟨_, o, ho, hc⟩
  · exact h1
  · rw [h] at ho; cases ho; cases hc
theorem own_turn {N : Nat} {A B : World} {row : Option Nat} {base e size n : Nat} {v : Value} {xs : List Value} (h : A.ownsRow base e size v n xs) (hg : A.grownBy B row) (hr : ∀ r, row = some r → False ∨ (N ≤ r ∧ ∃ o : Obj, A.heap[r]? = some o ∧ o.isCells = false)) : B.ownsRow base e size v n xs := by
  refine h.kept hg ?_
  rcases h.2 with ⟨rfl, _⟩ | ⟨g, cap, cur, rfl, hbg, hgb, _⟩
  · exact .inl rfl
  · refine .inr fun e' => ?_
    rcases hr g (by simpa [Value.ownBlock] using e'.symm) with h1 | ⟨_, o, ho, hc⟩
    · exact h1
    · rw [hgb] at ho; cases ho; cases hc
theorem below_of_turn {N n₀ : Nat} {A B W : World} {row : Option Nat} (h : Below n₀ W A) (hg : A.grownBy B row) (hr : ∀ r, row = some r → False ∨ (N ≤ r ∧ ∃ o : Obj, A.heap[r]? = some o ∧ o.isCells = false)) (hN : n₀ ≤ N) (hA : n₀ ≤ A.heap.size) : Below n₀ W B :=
  h.grown hg hA (fun r e => by rcases hr r e with h1 | ⟨h1, _⟩; · exact h1.elim
                               · omega)

def opsFrom : List DF → Nat → List (Nat × Opn)
  | [], _ => []
  | f :: fs, k => (f.ops.map fun o => (k, o)) ++ opsFrom fs (k + 1)
theorem opsFrom_snoc : ∀ (l : List DF) (f : DF) (k : Nat), opsFrom (l ++ [f]) k = opsFrom l k ++ f.ops.map fun o => (k + l.length, o)
  | [], f, k => by simp [opsFrom]
  | g :: l, f, k => by
    simp only [List.cons_append, opsFrom, opsFrom_snoc l f (k + 1), List.append_assoc, List.length_cons]
    rw [show k + 1 + l.length = k + (l.length + 1) by omega]
theorem opsTo_from (l : List DF) : ∀ k, k ≤ l.length → opsTo l k = opsFrom (l.take k) 0
  | 0, _ => by simp [opsTo, opsFrom]
  | k + 1, h => by
    rw [opsTo_succ, opsTo_from l k (by omega), List.take_succ_eq_append_getElem (by omega : k < l.length), opsFrom_snoc, opsAt_get (by omega : k < l.length), List.length_take, Nat.min_eq_left (by omega), Nat.zero_add]
theorem stepC_file (A B : List DF) : ∀ (os : List Opn) (f : DF) (ks : List Bool), (os.map fun o => (A.length, o)).foldl stepC (A ++ f :: B, ks) = (A ++ ⟨f.name, layKeep f.data os ks, f.ov, f.ops⟩ :: B, ks.drop os.length)
  | [], f, ks => by simp [layKeep]
  | o :: os, f, ks => by
    rw [List.map_cons, List.foldl_cons]
    have h : stepC (A ++ f :: B, ks) (A.length, o) = (A ++ ⟨f.name, if ks.headD false = true then layO f.data o else f.data, f.ov, f.ops⟩ :: B, ks.tail) := by
      unfold stepC upd
      simp only [List.getElem?_append_right (Nat.le_refl _), Nat.sub_self, List.getElem?_cons_zero]
      by_cases hk : ks.headD false = true
      · rw [if_pos hk, if_pos hk, List.set_append_right _ _ (Nat.le_refl _), Nat.sub_self, List.set_cons_zero]
      · rw [if_neg hk, if_neg hk]
    rw [h, stepC_file A B os _ ks.tail]
    simp only [layKeep, List.length_cons]
    congr 1
    cases ks <;> simp
theorem crash_from : ∀ (l A : List DF) (ks : List Bool), ∃ R, ((opsFrom l A.length).foldl stepC (A ++ l.map bare, ks)).1 = A ++ R ∧ los R = crashL (los l) ks
  | [], A, ks => ⟨[], by simp [opsFrom], by simp [los, crashL]⟩
  | f :: l, A, ks => by
    obtain ⟨R, h1, h2⟩ := crash_from l (A ++ [⟨f.name, layKeep f.data f.ops ks, .slice none 0 0, []⟩]) (ks.drop f.ops.length)
    refine ⟨⟨f.name, layKeep f.data f.ops ks, .slice none 0 0, []⟩ :: R, ?_, ?_⟩
    · rw [opsFrom, List.foldl_append, List.map_cons, stepC_file]
      simpa [bare] using h1
    · simp only [los, List.map_cons, crashL] at h2 ⊢
      rw [h2]; rfl
theorem crash_all (l : List DF) (ks : List Bool) : los (stC l ks (opsTo l l.length)).1 = crashL (los l) ks := by
  obtain ⟨R, h1, h2⟩ := crash_from l [] ks
  rw [opsTo_from l _ (Nat.le_refl _), List.take_length]
  unfold stC
  simp only [List.nil_append, List.length_nil] at h1
  rw [h1, h2]

/-- Between two rounds of Crash's loop. -/
structure CrJ (n0 B : Nat) (l : List DF) (ks : List Bool) (oa : Option Addr) (oc : Nat) (w : World) (pre : List (Nat × Opn)) (W : World) : Prop where
  hk : ∃ kv, W.heap[n0 + 1]? = some (.cells #[kv] 36 (0, 0)) ∧ Row boolC w kv (stC l ks pre).2
  hr : W.heap[n0 + 1 + 1]? = some (.cells #[.slice none 0 0, .bool false, .int .i64 0] 35 (0, 0))
  ho : W.heap[n0 + 1 + 1 + 1]? = some (.cells #[.slice oa l.length oc] 33 (0, 0))
  hown : OwnF W (n0 + 4) (.slice oa l.length oc) (stC l ks pre).1
  inv : (stC l ks pre).1.length = l.length ∧ ∀ f ∈ (stC l ks pre).1, Sound f
  below : Below n0 w W
  size : B < W.heap.size
theorem CrJ.turn {n0 B : Nat} {l : List DF} {ks : List Bool} {oa : Option Addr} {oc : Nat} {w : World} {pre : List (Nat × Opn)} {A A' : World} {row : Option Nat} {N : Nat} (h : CrJ n0 B l ks oa oc w pre A) (hg : A.grownBy A' row) (hr : ∀ r, row = some r → False ∨ (N ≤ r ∧ ∃ o : Obj, A.heap[r]? = some o ∧ o.isCells = false)) (hn : n0 ≤ N) (hn2 : n0 ≤ B) : CrJ n0 B l ks oa oc w pre A' := by
  obtain ⟨⟨kv, h1, h2⟩, h3, h4, h5, h6, h7, h8⟩ := h
  exact ⟨⟨kv, cells_turn h1 hg hr, h2⟩, cells_turn h3 hg hr, cells_turn h4 hg hr, own_turn h5 hg hr, h6, below_of_turn h7 hg hr hn (by omega), Nat.lt_of_lt_of_le h8 hg.size⟩

/-- The blocks that Crash lays, behind k files. -/
structure CrI (n0 : Nat) (kv : Value) (D : Obj) (w : World) (dn : List DF) (wr : World) : Prop where
  hd : wr.heap[n0]? = some D
  hk : wr.heap[n0 + 1]? = some (.cells #[kv] 36 (0, 0))
  hr : wr.heap[n0 + 1 + 1]? = some (.cells #[.slice none 0 0, .bool false, .int .i64 0] 35 (0, 0))
  ho : ∃ a c, wr.heap[n0 + 1 + 1 + 1]? = some (.cells #[.slice a dn.length c] 33 (0, 0)) ∧ OwnF wr (n0 + 4) (.slice a dn.length c) dn
  below : Below n0 w wr
  size : n0 + 4 ≤ wr.heap.size

set_option maxHeartbeats 8000000 in
set_option maxRecDepth 100000 in
theorem pcrash_walk (v kv : Value) (off : Bool) (fuse : Int) (l : List DF) (ks : List Bool) (w : World) (hr : FilesR w v l) (hkr : Row boolC w kv ks) (hcnt : l.length ≤ 1000) (hkl : ks.length ≤ 1000000) (hok : ∀ x ∈ l, badF x.lo = false) :
    Calls Try.prog 20 #[DiskV v off fuse, kv] w fun e w' => ∃ v' l', e = .returned (DiskV v' false (-1)) ∧ FilesR w' v' l' ∧ los l' = crashL (los l) ks ∧ Below w.heap.size w w' := by
  have hr0 := hr
  have hkr0 := hkr
  obtain ⟨⟨a, c, rfl, hc, hcm, hx⟩, hops⟩ := hr
  obtain ⟨ka, kc, rfl, hkc, hkm, _⟩ := hkr
  have HX := Lib.hid hx
  have HOPS := Lib.hid hops
  clear hx hops
  obtain ⟨i0, hi, hz0, hz1, hz2⟩ := info_parts infoDF
  obtain ⟨D, hD⟩ : ∃ D : Obj, D = .cells #[.slice a l.length c, .bool off, .int .i64 fuse] 35 (0, 0) := ⟨_, rfl⟩
  obtain ⟨A0, hA0⟩ : ∃ A, A = w.alloc (.cells #[.slice a l.length c, .bool off, .int .i64 fuse] 35) := ⟨_, rfl⟩
  obtain ⟨A1, hA1⟩ : ∃ A, A = A0.alloc (.cells #[.slice ka ks.length kc] 36) := ⟨_, rfl⟩
  obtain ⟨A2, hA2⟩ : ∃ A, A = A1.alloc (.cells #[.slice none 0 0, .bool false, .int .i64 0] 35) := ⟨_, rfl⟩
  obtain ⟨A3, hA3⟩ : ∃ A, A = A2.alloc (.cells #[.slice none 0 0] 33) := ⟨_, rfl⟩
  have z0 : A0.heap.size = w.heap.size + 1 := by rw [hA0]; simp
  have z1 : A1.heap.size = w.heap.size + 1 + 1 := by rw [hA1, World.size_alloc, z0]
  have z2 : A2.heap.size = w.heap.size + 1 + 1 + 1 := by rw [hA2, World.size_alloc, z1]
  have z3 : A3.heap.size = w.heap.size + 1 + 1 + 1 + 1 := by rw [hA3, World.size_alloc, z2]
  have hB3 : Below w.heap.size w A3 := by
    rw [hA3, hA2, hA1, hA0]
    exact (((Below.refl _ w).alloc (Nat.le_refl _) _).alloc (by simp) _).alloc (by simp; omega) _ |>.alloc (by simp; omega) _
  have m0 : A3.heap[w.heap.size]? = some D := by rw [hA3, hA2, hA1, hD]; exact heap_old (heap_old (heap_old (by rw [hA0]; exact heap_alloc_new w _)))
  have m1 : A3.heap[w.heap.size + 1]? = some (.cells #[.slice ka ks.length kc] 36 (0, 0)) := by rw [hA3, hA2]; exact heap_old (heap_old (by rw [hA1]; exact heap_new' z0.symm _))
  have m2 : A3.heap[w.heap.size + 1 + 1]? = some (.cells #[.slice none 0 0, .bool false, .int .i64 0] 35 (0, 0)) := by rw [hA3]; exact heap_old (by rw [hA2]; exact heap_new' z1.symm _)
  have m3 : A3.heap[w.heap.size + 1 + 1 + 1]? = some (.cells #[.slice none 0 0] 33 (0, 0)) := by rw [hA3]; exact heap_new' z2.symm _
  have hst : CrI w.heap.size (.slice ka ks.length kc) D w [] A3 := ⟨m0, m1, m2, ⟨none, 0, m3, World.ownsRow_nil _ _ _ _⟩, hB3, by omega⟩
  refine (callsIn_wide (n := 3)).1 ?_
  refine callsIn_of_wp_marks Try.func20 rfl trivial ?_ rfl
  simp only [Try.ntmps20, List.size_toArray, List.length_cons, List.length_nil, Nat.reduceAdd, Nat.reduceSub, Array.replicate_succ, Array.replicate_zero, List.push_toArray, List.append_toArray, List.nil_append, List.cons_append]
  gi_wp2
  rw [← hA0, ← hA1, ← hA2, ← hA3]
  clear hA0 hA1 hA2 hA3 m0 m1 m2 m3 hB3 z0 z1 z2 z3
  gi_loopw [13] (fun i wr => ∃ k : Nat, k ≤ l.length ∧ i = .int .i64 k ∧ CrI w.heap.size (.slice ka ks.length kc) D w ((l.take k).map bare) wr) (fun i _ => l.length - (intOf i).toNat)
  case atStart => exact ⟨0, Nat.zero_le _, rfl, hst⟩
  case round =>
    obtain ⟨k, hk, rfl, ⟨hd, hkb, hrs, ⟨oa, oc, hou, hown⟩, hB, hsz⟩⟩ := hrel
    by_cases h1 : k < l.length
    · have h1' : (k : Int) < (l.length : Int) := by omega
      have hx := HX.out
      rcases hx with hx | ⟨bx, ox, rfl, hx⟩
      · exfalso; rw [hx] at h1; simp at h1
      obtain ⟨hx1, hx2, hx3⟩ := df_cells hx h1
      have e1 := cell_keep (fun i hi => hB.block i hi) (Nat.le_refl _) hx1
      have e2 := cell_keep (fun i hi => hB.block i hi) (Nat.le_refl _) hx2
      have e3 := cell_keep (fun i hi => hB.block i hi) (Nat.le_refl _) hx3
      have hor := HOPS.out l[k] (by simp)
      have HSUC := Lib.hid (bares_succ h1)
      clear hx hx1 hx2 hx3
      generalize l[k] = y at *
      obtain ⟨nm, dt, ov, os⟩ := y
      obtain ⟨xa, xc, hov, _⟩ := hor
      simp only at hov e1 e2 e3
      subst hov
      have hdl : ((l.take k).map bare).length = k := by simp; omega
      generalize (l.take k).map bare = dn at *
      have HDL := Lib.hid hdl
      clear hdl
      have c5 := heap_cell hou (j := 0) (v := .slice oa dn.length oc) rfl
      have c5q := fun o => cell_old c5 o
      gi_wp2_with (gi_at_builtin; refine wpListIn_append_own _ rfl _ _ 33 rfl (w.heap.size + 4) 50 i0 (.agg #[.string ⟨#[]⟩, .string ⟨#[]⟩, .slice none 0 0]) 3 56 Try.underlying33 hi hz0 hz1 hz2 rfl (by decide) _ _ _ rfl ((World.ownsRow.alloc hown _).alloc _) ⟨wr.heap.size + 1, 0, none⟩ 1 1 [S nm, S dt, .slice none 0 0] rfl rfl (new_cells3_at (by simp) _ _ _ _) (df3_one rfl) (by have := HDL.out; unfold maxLen; omega) (by have := HDL.out; omega) (by simp; omega) ?_)
      intro v' w1 hown' hgrow _
      obtain ⟨va, vn, vc, rfl⟩ := own_slice hown'
      obtain rfl : vn = dn.length + 1 := own_count hown'
      have hne : ∀ j, j < w.heap.size + 4 → w1.heap[j]? = wr.heap[j]? := fun j hj => (hgrow.block j (by simp; omega) (fun e => by have := (hown.lt j e.symm).1; omega)).trans ((Below.heap_alloc _ _ _ (by simp; omega)).trans (Below.heap_alloc _ _ _ (by omega)))
      have hou1 := (hne (w.heap.size + 1 + 1 + 1) (by omega)).trans hou
      have hz1 : w.heap.size + 4 ≤ w1.heap.size := by have := hgrow.size; simp at this; omega
      have hB1 : Below w.heap.size w w1 := ((hB.alloc (by omega) _).alloc (by simp; omega) _).grown hgrow (by simp; omega) (fun j hj => by have := (hown.lt j hj).1; omega)
      have c6 := heap_cell hou1 (j := 0) (v := .slice oa dn.length oc) rfl
      have f6 := heap_free hou1 0
      have q6 := is_some c6
      have HK := Lib.hid (CrI.mk (n0 := w.heap.size) (kv := .slice ka ks.length kc) (D := D) (w := w) (dn := dn ++ [bare ⟨nm, dt, .slice xa os.length xc, os⟩]) (wr := w1.setCell ⟨w.heap.size + 1 + 1 + 1, 0, none⟩ (.slice va (dn.length + 1) vc))
        ((Below.heap_setCell _ _ _ _ (by show w.heap.size ≠ _; simp; omega)).trans ((hne _ (by omega)).trans hd)) ((Below.heap_setCell _ _ _ _ (by show w.heap.size + 1 ≠ _; simp)).trans ((hne _ (by omega)).trans hkb)) ((Below.heap_setCell _ _ _ _ (by show w.heap.size + 1 + 1 ≠ _; simp)).trans ((hne _ (by omega)).trans hrs))
        ⟨va, vc, by have := heap_set_cell (o := 0) hou1 (.slice va (dn.length + 1) vc); simpa using this, by
          refine own_set ?_ (by omega)
          rw [List.length_append, List.flatMap_append]
          exact hown'⟩
        (below_setC hB1 (by omega) 0 _) (by rw [size_setCell']; exact hz1))
      clear hgrow hown' hown hB hne hou hou1 hB1 hd hkb hrs c5 c5q e1 e2 e3
      gi_wp2
      go_roundw
      case rel => exact ⟨k + 1, by omega, by go_num, by rw [HSUC.out]; exact HK.out⟩
      case measure => simp [intOf]; omega
    · have h1' : ¬ (k : Int) < (l.length : Int) := by omega
      rw [List.take_of_length_le (by omega)] at hou hown
      subst hD
      have c0 := heap_cell hd (j := 0) (v := .slice a l.length c) rfl
      have c1 := heap_cell hd (j := 1) (v := .bool off) rfl
      have c2 := heap_cell hd (j := 2) (v := .int .i64 fuse) rfl
      gi_wp2_with (refine ⟨trivial, ?_⟩; gi_at_call 41; refine (callsIn_wide.2 (ops_walk _ _ _ _)).mono ?_; rintro e w' ⟨rfl, rfl⟩)
      have hB1 : wr.heap.size < (wr.alloc (.cells #[.slice a l.length c, .bool off, .int .i64 fuse] 35)).heap.size := by simp
      have hJ0 : CrJ w.heap.size wr.heap.size l ks oa oc w [] (wr.alloc (.cells #[.slice a l.length c, .bool off, .int .i64 fuse] 35)) :=
        ⟨⟨_, heap_old hkb, hkr0⟩, heap_old hrs, by have := heap_old (o := .cells #[.slice a l.length c, .bool off, .int .i64 fuse] 35) hou; simpa using this, by
          have := World.ownsRow.alloc hown (.cells #[.slice a l.length c, .bool off, .int .i64 fuse] 35); simpa [OwnF, stC] using this,
          ⟨by simp [stC], fun f hf => by
            obtain ⟨x, hx, rfl⟩ := List.mem_map.1 hf
            exact ⟨rfl, rfl, ((badF_iff _).1 (hok x hx)).2.2.1⟩⟩, hB.alloc (by omega) _, hB1⟩
      have hbox := heap_alloc_new wr (.cells #[.slice a l.length c, .bool off, .int .i64 fuse] 35)
      have hold : ∀ i, i < w.heap.size → (wr.alloc (.cells #[.slice a l.length c, .bool off, .int .i64 fuse] 35)).heap[i]? = w.heap[i]? := fun i hi => (Below.heap_alloc _ _ _ (by omega)).trans (hB.block i hi)
      have hol : ∀ x ∈ l, x.ops.length ≤ 1000 := fun x hx => by have := ((badF_iff _).1 (hok x hx)).2.1; simp only [DF.lo] at this; omega
      have hown9 := hown.lt
      have hownB : ∀ g, (Value.slice oa l.length oc).ownBlock = some g → w.heap.size + 4 ≤ g ∧ g < wr.heap.size := by simpa using hown9
      have HOB := Lib.hid hownB
      have HOK := Lib.hid hok
      have hsz0 : w.heap.size < wr.heap.size := by omega
      clear hown9 hownB hown hou hrs hkb hB hd hst c0 c1 c2 hok
      refine range_law (gf := 71) (lb := #[.pointer (some ⟨wr.heap.size, 0, none⟩)]) rfl (enters_of Try.func71 (by kernel_rfl) rfl)
        (ops_iter wr.heap.size (.slice a l.length c) off fuse l w _ hr0 hbox hold hcnt hol) (fun r e => e.elim) (fun h k => KpO.trans h k) (fun W l o h => KpO.put W l o (by omega) (by omega)) (fun o o' => (KpO.alloc _ o (by omega) hB1).trans (KpO.alloc _ o' (by simp; omega) (by simp; omega))) (fun x => rfl)
        (CrJ w.heap.size wr.heap.size l ks oa oc w) (fun _ _ _ => False) (fun s A B row hs hg hr => hs.turn hg hr (by omega) (by omega)) (fun c s A B row hs hg hr => hs) hJ0
        (fun x a' W => ∃ q, a' = { tmps := #[DiskV (.slice a l.length c) off fuse, .slice ka ks.length kc, .pointer (some ⟨w.heap.size, 0, none⟩), .pointer (some ⟨w.heap.size + 1, 0, none⟩), .pointer (some ⟨w.heap.size + 1 + 1, 0, none⟩), .pointer (some ⟨w.heap.size + 1 + 1 + 1, 0, none⟩), undef, u7, .int .i64 x.1, .pointer (some ⟨q, 0, none⟩), .pointer (some ⟨w.heap.size, 0, none⟩), .slice a l.length c, .int .i64 l.length, .int .i64 k, .bool false, u15, u16, u17, u18, u19, u20, u21, u22, u23, u24, u25, .agg #[.slice a l.length c, .bool off, .int .i64 fuse], .func (.func 71) #[] #[.pointer (some ⟨wr.heap.size, 0, none⟩)], .int .i64 x.1, OpV x.2, undef, undef, undef, undef, undef, undef, undef, undef, undef, undef, undef, undef, undef, undef, undef, undef, undef, undef, undef, undef, undef, undef, undef, undef, undef, undef], defers := [] } ∧ W.heap[q]? = some (.cells #[.int .i64 x.2.1, S x.2.2] 69 (0, 0)) ∧ wr.heap.size < q)
        (fun x a' s A B row hs hg hr => by
          obtain ⟨q, h1, h2, h3⟩ := hs
          exact ⟨q, h1, cells_turn h2 hg hr, h3⟩) ?assign ?body ?done ?stop
      case assign =>
        rintro ly pre ⟨xi, xp, xt⟩ W K hI hK
        simp only [encO]
        gi_wp2
        exact hK _ _ ((KeepsOthers.alloc _ _).from _) (KpO.alloc _ _ (by have := hI.size; omega) hI.size) (hI.turn (World.grownBy_alloc W _ none) (N := w.heap.size) (fun r e => by cases e) (Nat.le_refl _) (by omega)) ⟨_, rfl, heap_alloc_new _ _, hI.size⟩
      case body =>
        rintro ly pre ⟨xi, xp, xt⟩ a' W hly _ ⟨⟨kv, hk1, hk2⟩, hr3, ho4, hown5, hinv, hB6, hsz7⟩ ⟨q, rfl, hq, hBq⟩ hpx
        have hb : badO (xp, xt) = false := by
          obtain ⟨hi5, ho5⟩ := opsTo_mem (x := (xi, (xp, xt))) (hpx.subset (by simp))
          exact ((badF_iff _).1 (HOK.out l[xi] (by simp))).2.2.2 (xp, xt) ho5
        have hil : xi < l.length := (opsTo_mem (x := (xi, (xp, xt))) (hpx.subset (by simp))).1
        have HSN := Lib.hid (stC_snoc l ks pre (xi, (xp, xt)))
        have HST := Lib.hid (stepC_inv (x := (xi, (xp, xt))) hinv hb)
        generalize stC l ks pre = st at *
        obtain ⟨fs, kk⟩ := st
        simp only at hown5 hinv hk2 hq
        have hkw := hk2
        obtain ⟨kb, kd, rfl, hkd, hkdm, hkx⟩ := hkw
        have d1 := heap_cell hk1 (j := 0) (v := .slice kb kk.length kd) rfl
        have fz1 := heap_free hk1 0
        have HHK := Lib.hid (And.intro hr3 (And.intro ho4 (And.intro hown5 (And.intro hB6 hk1))))
        have hne1 : ∀ (V : Value) (i : Nat), i ≠ w.heap.size + 1 → (W.setCell ⟨w.heap.size + 1, 0, none⟩ V).heap[i]? = W.heap[i]? := fun V i hi => Below.heap_setCell _ _ _ _ hi
        have HNE1 := Lib.hid hne1
        have HNEW := Lib.hid (fun (V : Value) (h : Row boolC w V kk.tail) (hs : (stepC (fs, kk) (xi, (xp, xt))).1 = fs) (hs2 : (stepC (fs, kk) (xi, (xp, xt))).2 = kk.tail) => (show KeepsFrom (wr.heap.size + 1) W (W.setCell ⟨w.heap.size + 1, 0, none⟩ V) ∧ KpO w.heap.size wr.heap.size W (W.setCell ⟨w.heap.size + 1, 0, none⟩ V) ∧ CrJ w.heap.size wr.heap.size l ks oa oc w (pre ++ [(xi, (xp, xt))]) (W.setCell ⟨w.heap.size + 1, 0, none⟩ V) from
          ⟨(KeepsOthers.setCell _ _ _).from _, ⟨by rw [size_setCell']; exact Nat.le_refl _, fun i hi => hne1 V i (by omega)⟩,
            ⟨⟨V, by have := heap_set_cell (o := 0) hk1 V; simpa using this, by rw [HSN.out, hs2]; exact h⟩, (hne1 V _ (by omega)).trans hr3, (hne1 V _ (by omega)).trans ho4, by rw [HSN.out, hs]; exact own_set hown5 (by omega), by rw [HSN.out]; exact HST.out, below_setC hB6 (by omega) 0 V, by rw [size_setCell']; exact hsz7⟩⟩))
        clear hne1 hr3 ho4 hown5 hB6 hk1
        have hkx2 := Lib.hid hkx
        clear hkx
        cases kk with
        | nil =>
          have hm1 : min (1 : Int) 0 = 0 := rfl
          gi_wp2
          all_goals
            refine HNEW.out _ ⟨_, _, rfl, Nat.zero_le _, ?_, .inl rfl⟩ rfl rfl
            unfold maxLen at *; omega
        | cons kh kt =>
          have hkx := hkx2.out
          rcases hkx with hkx | ⟨b3, o3, rfl, hkx⟩
          · cases hkx
          have hk0 := cell_keep (fun i hi => HHK.out.2.2.2.1.block i hi) (Nat.le_refl _) (hkx 0 kh rfl 0 _ rfl)
          simp only [Nat.zero_mul, Nat.add_zero] at hk0
          have hm1 : min (1 : Int) ((kt.length : Int) + 1) = 1 := by omega
          have HRT := Lib.hid (row_tail hkx hkd hkdm)
          have HRG := Lib.hid (fun (h : kd - 1 = 0) => (show kt.length = 0 by simp at hkd; omega))
          clear hkx
          cases kh with
          | false =>
            gi_wp2
            all_goals first
              | exact HNEW.out _ HRT.out rfl rfl
              | exact HNEW.out _ (row_gone (HRG.out (by omega))) rfl rfl
          | true =>
            obtain ⟨hr3, ho4, hown5, hB6, hk1⟩ := HHK.out
            rw [← hinv.1] at hown5 ho4
            have hown6 := hown5.2
            rcases hown6 with ⟨hv, hn0⟩ | ⟨g, cap, cur, hv, hBg, hg, _⟩
            · exfalso; have := hinv.1; omega
            cases hv
            have hgB := HOB.out g rfl
            rw [hinv.1] at ho4
            have hlenE := hinv.1
            have hfl : xi < fs.length := by rw [hinv.1]; exact hil
            have hfs := hinv.2 fs[xi] (by simp)
            have HUP := Lib.hid (upd_at (xp, xt) hfl)
            have HSET := Lib.hid (flat_set1 (d := layO fs[xi].data (xp, xt)) hfl)
            have hcell : W.cell? ⟨g, xi * 3 + 1, none⟩ = some (S fs[xi].data) := by
              rw [World.ownsRow.cellAt hown5 (xi * 3 + 1) (by omega)]
              have := flat_atK (f := dfC) dfC_len fs xi fs[xi] 1 (S fs[xi].data) (by simp [hfl]) rfl
              exact this
            have hfrz : W.frozen? ⟨g, xi * 3 + 1, none⟩ = false := World.ownsRow.frozenAt hown5 (xi * 3 + 1)
            have CL := fun (W' : World) => play_walk fs[xi].data (xp, xt) W' hfs.2.2 hb
            have HOW := Lib.hid hown5
            have HLEN := Lib.hid hinv.1
            have hlen3 : fs.length = l.length := hinv.1
            have hilt : (xi : Int) < (l.length : Int) := by omega
            have hilt2 : (xi : Int) < (fs.length : Int) := by omega
            generalize fs[xi] = y at *
            obtain ⟨nm, dt, ov, os⟩ := y
            simp only at hcell CL HUP HSET hfs
            generalize layO dt (xp, xt) = ly2 at *
            have g5 := heap_cell ho4 (j := 0) (v := .slice (some ⟨g, 0, none⟩) l.length oc) rfl
            have hqa := heap_cell hq (j := 0) (v := .int .i64 xp) rfl
            have hqb := heap_cell hq (j := 1) (v := S xt) rfl
            have HALL := Lib.hid (And.intro hr3 (And.intro ho4 (And.intro hB6 hk1)))
            clear hr3 hown5 hB6 hk1 hg ho4 hq hinv HHK
            gi_wp2
            have LG5 := LaterOf.cell g5
            have LHC := LaterOf.cell hcell
            have LQA := LaterOf.cell hqa
            have LQB := LaterOf.cell hqb
            have hfen : Fence.wide.fn 42 := trivial
            (refine wpIn_tail_later 9 3 rfl (by kernel_rfl) (by kernel_rfl) (by kernel_rfl) (by kernel_rfl) (by kernel_rfl) ?_; simp only [List.take_succ_cons, List.take_zero]; (repeat (gi_big_quiet_step (first | (gi_at_call 42; exact LaterOf.callIn _ (CallsIn.inRound ly (callsIn_wide.2 (CL _)))) | (refine ⟨fun _ => by omega, ?_⟩; (gi_at_call 42; exact LaterOf.callIn _ (CallsIn.inRound ly (callsIn_wide.2 (CL _))))) | (refine ⟨trivial, ?_⟩; (gi_at_call 42; exact LaterOf.callIn _ (CallsIn.inRound ly (callsIn_wide.2 (CL _)))))))); refine wpQuietIn_nil ?_; intro _ hw1; obtain ⟨lw, hw2⟩ := hw1; subst hw2)
            have k5 := LG5 lw
            have kc2 := LHC lw
            have kf : lw.world.frozen? ⟨g, xi * 3 + 1, none⟩ = false := ((bcell lw.below).2 g (xi * 3 + 1) (lt_of_cell hcell)).trans hfrz
            have kd1 := cell_below lw.below d1
            clear LG5 LHC LQA LQB
            (refine wpAnyIn_ready (rs := [9]) (by kernel_rfl) (by simp) ?_; refine AllReadyIn.cons rfl (fun K hK => ?_) AllReadyIn.nil; go_simp; refine hK _ _ ?_; clear hK K)
            (refine wpAnyIn_ready (rs := [10]) (by kernel_rfl) (by simp) ?_; refine AllReadyIn.cons rfl (fun K hK => ?_) AllReadyIn.nil; go_simp; refine hK _ _ ?_; clear hK K)
            (refine wpAnyIn_ready (rs := [11]) (by kernel_rfl) (by simp) ?_; refine AllReadyIn.cons rfl (fun K hK => ?_) AllReadyIn.nil; go_simp; refine hK _ _ ?_; clear hK K)
            refine wpAnyIn_done (by kernel_rfl) ?_ _
            obtain ⟨hr3, ho4, hB6, hk1⟩ := HALL.out
            have e3 := (lw.below.block _ (heap_lt hr3)).trans hr3
            have e4 := (lw.below.block _ (heap_lt ho4)).trans ho4
            have e1 := (lw.below.block _ (heap_lt hk1)).trans hk1
            have hownL : OwnF lw.world (w.heap.size + 4) (.slice (some ⟨g, 0, none⟩) fs.length oc) fs := own_keep HOW.out (fun i _ hi => lw.below.block i hi)
            have hownS := (World.ownsRow.stored hownL (xi * 3 + 1) (S ly2)).1
            rw [HSET.out] at hownS
            obtain ⟨W3, hW3⟩ : ∃ W3, W3 = lw.world.setCell ⟨g, xi * 3 + 1, none⟩ (S ly2) := ⟨_, rfl⟩
            have hne3 : ∀ i, i ≠ g → W3.heap[i]? = lw.world.heap[i]? := fun i hi => by rw [hW3]; exact Below.heap_setCell _ _ _ _ hi
            have t1 := (hne3 (w.heap.size + 1) (by omega)).trans e1
            have t3 := (hne3 (w.heap.size + 1 + 1) (by omega)).trans e3
            have t4 := (hne3 (w.heap.size + 1 + 1 + 1) (by omega)).trans e4
            have tB : Below w.heap.size w W3 := by rw [hW3]; exact below_setC (hB6.trans (lw.below.mono (by omega))) (by omega) _ _
            have tz : W.heap.size ≤ W3.heap.size := by rw [hW3, size_setCell']; exact lw.below.size
            have tK : KeepsFrom (wr.heap.size + 1) W W3 := by rw [hW3]; exact (keeps_below lw.below _).trans ((KeepsOthers.setCell _ _ _).from _)
            have tk : ∀ i, i < w.heap.size ∨ i = wr.heap.size → W3.heap[i]? = W.heap[i]? := fun i hi => (hne3 i (by omega)).trans (lw.below.block i (by omega))
            have hst1 : (stepC (fs, true :: kt) (xi, (xp, xt))).1 = fs.set xi ⟨nm, ly2, ov, os⟩ := by
              simp only [stepC, List.headD_cons, if_true]; exact HUP.out
            have hst2 : (stepC (fs, true :: kt) (xi, (xp, xt))).2 = kt := rfl
            have hown7 : OwnF W3 (w.heap.size + 4) (.slice (some ⟨g, 0, none⟩) l.length oc) (fs.set xi ⟨nm, ly2, ov, os⟩) := by
              have hls : (fs.set xi ⟨nm, ly2, ov, os⟩).length = fs.length := by simp
              unfold OwnF
              rw [hls, hW3, ← hlen3]; exact hownS
            have HNW := Lib.hid (fun (V : Value) (h : Row boolC w V kt) => (show KeepsFrom (wr.heap.size + 1) W (W3.setCell ⟨w.heap.size + 1, 0, none⟩ V) ∧ KpO w.heap.size wr.heap.size W (W3.setCell ⟨w.heap.size + 1, 0, none⟩ V) ∧ CrJ w.heap.size wr.heap.size l ks (some ⟨g, 0, none⟩) oc w (pre ++ [(xi, (xp, xt))]) (W3.setCell ⟨w.heap.size + 1, 0, none⟩ V) from
              ⟨tK.trans ((KeepsOthers.setCell _ _ _).from _), ⟨by rw [size_setCell']; exact tz, fun i hi => (Below.heap_setCell _ _ _ _ (by show i ≠ w.heap.size + 1; omega)).trans (tk i hi)⟩,
                ⟨⟨V, by have := heap_set_cell (o := 0) t1 V; simpa using this, by rw [HSN.out, hst2]; exact h⟩, (Below.heap_setCell _ _ _ _ (by show _ ≠ w.heap.size + 1; omega)).trans t3, (Below.heap_setCell _ _ _ _ (by show _ ≠ w.heap.size + 1; omega)).trans t4, by rw [HSN.out, hst1]; exact own_set hown7 (by omega), by rw [HSN.out]; exact HST.out, below_setC tB (by omega) 0 V, by rw [size_setCell']; omega⟩⟩))
            have u1 := heap_cell t1 (j := 0) (v := .slice (some ⟨b3, o3, none⟩) (kt.length + 1) kd) rfl
            have u2 := heap_free t1 0
            rw [← hW3]
            clear hW3 hne3 t1 t3 t4 tB tz tK tk hst1 hst2 hown7 hownS hownL e1 e3 e4 hr3 ho4 hB6 hk1 k5 kc2 kf kd1 hcell hfrz g5 hqa hqb CL d1 fz1 hfen
            gi_wp2
            all_goals first
              | exact HNW.out _ HRT.out
              | exact HNW.out _ (row_gone (HRG.out (by omega)))
      case done =>
        rintro D W hD ⟨⟨kv, hk1, _⟩, hr3, ho4, hown5, hinv, hB6, hsz7⟩ hK
        have HSUM := Lib.hid (crash_all l ks)
        generalize stC l ks (opsTo l l.length) = st at *
        obtain ⟨fs, kk⟩ := st
        simp only at hown5 hinv HSUM
        have c4 := heap_cell ho4 (j := 0) (v := .slice oa l.length oc) rfl
        have e0 := heap_cell hr3 (j := 0) (v := .slice none 0 0) rfl
        have e1 := heap_cell hr3 (j := 1) (v := .bool false) rfl
        have e2 := heap_cell hr3 (j := 2) (v := .int .i64 0) rfl
        have f0 := heap_free hr3 0
        have f1 := heap_free hr3 1
        have f2 := heap_free hr3 2
        have HALL := Lib.hid (And.intro hr3 (And.intro hown5 (And.intro hinv hB6)))
        clear hk1 hr3 ho4 hown5 hinv hB6
        gi_wp2
        obtain ⟨hr3, hown5, hinv, hB6⟩ := HALL.out
        obtain ⟨W1, hW1⟩ : ∃ W1, W1 = ((W.setCell ⟨w.heap.size + 1 + 1, 0, none⟩ (.slice oa l.length oc)).setCell ⟨w.heap.size + 1 + 1, 1, none⟩ (.bool false)).setCell ⟨w.heap.size + 1 + 1, 2, none⟩ (.int .i64 (-1)) := ⟨_, rfl⟩
        have hDn : wr.heap.size + 1 ≤ D := by simpa using hD
        have hne : ∀ i, i ≠ w.heap.size + 1 + 1 → W1.heap[i]? = W.heap[i]? := fun i hi => by rw [hW1]; exact ((Below.heap_setCell _ _ _ _ hi).trans (Below.heap_setCell _ _ _ _ hi)).trans (Below.heap_setCell _ _ _ _ hi)
        have hK1 : W1.heap[D]? = some (.deferred (some [])) := (hne D (by omega)).trans hK
        have hr1 : W1.heap[w.heap.size + 1 + 1]? = some (.cells #[.slice oa l.length oc, .bool false, .int .i64 (-1)] 35 (0, 0)) := by
          have := heap_set_cell (o := 2) (heap_set_cell (o := 1) (heap_set_cell (o := 0) hr3 (.slice oa l.length oc)) (.bool false)) (.int .i64 (-1))
          rw [hW1]; simpa using this
        have hB1 : Below w.heap.size w W1 := by rw [hW1]; exact below_setC (below_setC (below_setC hB6 (by omega) 0 _) (by omega) 1 _) (by omega) 2 _
        have hr2 : (W1.putObj D (.deferred none)).heap[w.heap.size + 1 + 1]? = some (.cells #[.slice oa l.length oc, .bool false, .int .i64 (-1)] 35 (0, 0)) := (World.putObj_heap_other (by omega)).trans hr1
        have hown1 : OwnF W1 (w.heap.size + 4) (.slice oa l.length oc) fs := own_keep hown5 (fun i h1 h2 => hne i (by omega))
        have hown6 : OwnF (W1.putObj D (.deferred none)) (w.heap.size + 4) (.slice oa l.length oc) fs := ownsRow_putObj hown1 (.deferred none) hK1 rfl
        have x0 := heap_cell hr2 (j := 0) (v := .slice oa l.length oc) rfl
        have x1 := heap_cell hr2 (j := 1) (v := .bool false) rfl
        have x2 := heap_cell hr2 (j := 2) (v := .int .i64 (-1)) rfl
        rw [← hW1]
        refine ⟨by simp, .inl ⟨_, _, rfl, run_takeDeferred hK1, ?_⟩⟩
        refine ⟨DiskV (.slice oa l.length oc) false (-1), by simp [results, Try.results20, go_sem, x0, x1, x2], _, rfl, ?_⟩
        refine ⟨fs, ⟨?_, fun x hx => ?_⟩, HSUM.out, hB1.grown (grownBy_putObj' _ D (.deferred none)) (by have := hB1.size; omega) (fun k e => by cases e; omega)⟩
        · have := Row.of_ownsK dfC_len hown6
          exact this
        · obtain ⟨h1, h2, _⟩ := hinv.2 x hx
          rw [h1, h2]; exact Row.nil _ _
      case stop =>
        intro D c pre W hD hpre hF
        exact hF.elim
end Go.Proofs.Ythjoaoakadaieaa
