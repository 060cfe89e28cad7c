/- How much a fit node holds. Rows of elements of K cells: what a call owns reads as such a row. Boxes of four cells; rows that stay. Nodes, their parts and entries in memory. The reference's Name. The reference's answers on nodes: fitFile, fitDir. -/
import Derived.Test.YtkejdbidomlonaaGreatDoorJSnpPlain
import Derived.Test.YtkejdbidomlonaaGreatDoorRowK
import Derived.Test.YtkejdbidomlonaaGreatDoorJPlain
import Derived.Sort.Walk0
namespace Go.Proofs.YtkejdbidomlonaaGreatDoor

theorem fit_sizes {n : Nod} (hf : FitN n) : n.parts.length ≤ 1024 ∧ n.ents.length ≤ 60 ∧ n.data.length ≤ 4096 ∧ (∀ p ∈ n.parts, partOk p = true) ∧ (∀ e ∈ n.ents, entOk e = true) ∧ 1 ≤ n.kind ∧ n.kind ≤ 3 := by
  rcases hf with ⟨h1, h2, h3, h4, h5⟩ | ⟨h1, h2, h3, h4⟩ | ⟨h1, h2, h3, h4⟩
  · rw [h4, h5]; exact ⟨by simp, by simp, h3, by simp, by simp, by omega, by omega⟩
  · rw [h2, h3]; exact ⟨h4.len, by simp, by simp, h4.ok, by simp, by omega, by omega⟩
  · rw [h2, h3]; exact ⟨by simp, h4.len, by simp, by simp, h4.ok, by omega, by omega⟩
end Go.Proofs.YtkejdbidomlonaaGreatDoor

namespace Go.Proofs.YtkejdbidomlonaaGreatDoor
open Go.RowKit

section
variable {α : Type} {f : α → List Value} {K : Nat}
theorem flat_atK (hf : ∀ x, (f x).length = K) : ∀ (l : List α) (j : Nat) (x : α) (i : Nat) (u : Value), l[j]? = some x → (f x)[i]? = some u → (l.flatMap f)[j * K + i]? = some u
  | [], j, x, i, u, h, _ => by simp at h
  | y :: ys, 0, x, i, u, h, hu => by
    simp at h; subst h
    rw [List.flatMap_cons, Nat.zero_mul, Nat.zero_add, List.getElem?_append_left (List.getElem?_eq_some_iff.1 hu).1]
    exact hu
  | y :: ys, j + 1, x, i, u, h, hu => by
    have ih := flat_atK hf ys j x i u (by simpa using h) hu
    rw [List.flatMap_cons, List.getElem?_append_right (by rw [hf, Nat.add_mul]; omega)]
    rw [← ih]
    congr 1
    rw [hf, Nat.add_mul]; omega
theorem Row.of_ownsK (hf : ∀ x, (f x).length = K) {w : World} {base e : Nat} {v : Value} {l : List α} (h : w.ownsRow base e K v l.length (l.flatMap f)) : Row f w v l := by
  obtain ⟨_, h⟩ := h
  rcases h with ⟨hv, hn⟩ | ⟨g, cap, cur, hv, _, hh, hc, hm, hs, ht⟩
  · have : l = [] := List.length_eq_zero_iff.1 hn
    subst this; subst hv; exact Row.nil _ w
  · refine ⟨_, _, hv, hc, hm, .inr ⟨g, 0, rfl, fun j x hx i u hu => ?_⟩⟩
    have h1 : cur.toList[j * (f x).length + i]? = some u := by
      have : (cur.toList.take (l.length * K))[j * (f x).length + i]? = some u := by rw [ht, hf]; exact flat_atK hf l j x i u hx hu
      rw [List.getElem?_take] at this
      split at this
      · exact this
      · cases this
    simp only [World.cell?, hh]
    simpa using h1
theorem row_flatK (hf : ∀ x, (f x).length = K) (hK : 0 < K) {w : World} {a : Option Addr} {c : Nat} {l : List α} (hr : Row f w (.slice a l.length c) l) : l.flatMap f = [] ∨ ∃ b o, a = some ⟨b, o, none⟩ ∧ ∀ j u, (l.flatMap f)[j]? = some u → w.cell? ⟨b, o + j, none⟩ = some u := by
  obtain ⟨a', c', hv, _, _, hx⟩ := hr
  cases hv
  rcases hx with hx | ⟨b, o, ha, hx⟩
  · exact .inl (by rw [hx]; rfl)
  · refine .inr ⟨b, o, ha, fun j u hj => ?_⟩
    have hlt : j < (l.flatMap f).length := (List.getElem?_eq_some_iff.1 hj).1
    rw [flat_lenK hf] at hlt
    have hk : j / K < l.length := Nat.div_lt_of_lt_mul (by rw [Nat.mul_comm]; exact hlt)
    have hm : j % K < K := Nat.mod_lt _ hK
    have h1 := hx (j / K) l[j / K] (by simp [hk]) (j % K)
    have h2 := flat_atK hf l (j / K) l[j / K] (j % K)
    have e : j / K * K + j % K = j := Nat.div_add_mod' j K
    have h4 : ∃ v, (f l[j / K])[j % K]? = some v := ⟨_, List.getElem?_eq_getElem (by rw [hf]; exact hm)⟩
    obtain ⟨v, hv⟩ := h4
    have h5 := h2 v (by simp [hk]) hv
    rw [e, hj] at h5
    cases h5
    have h6 := h1 u hv
    rwa [hf, Nat.add_assoc, e] at h6
theorem flat_oneK {l : List α} (h1 : ∀ x ∈ l, ∀ u ∈ f x, u.oneCell' = true) : ∀ u ∈ l.flatMap f, u.oneCell' = true := by
  intro u hu
  obtain ⟨x, hm, hx⟩ := List.mem_flatMap.1 hu
  exact h1 x hm u hx
/-- The cells of one of them. -/
theorem row_at {w : World} {b o : Nat} {l : List α} (h : ∀ j x, l[j]? = some x → ∀ i u, (f x)[i]? = some u → w.cell? ⟨b, o + j * (f x).length + i, none⟩ = some u) {j : Nat} (hj : j < l.length) {i : Nat} {u : Value} (hu : (f l[j])[i]? = some u) :
    w.cell? ⟨b, o + j * (f l[j]).length + i, none⟩ = some u := h j _ (by simp [hj]) i u hu
end
theorem ba_cut (l : List UInt8) (f k : Nat) : ({ data := l.toArray } : ByteArray).extract f k = ⟨(cutL l f k).toArray⟩ := Value.string.inj (S_extract l f k)
theorem ba_cat (a b : List UInt8) : (⟨a.toArray⟩ : ByteArray) ++ ⟨b.toArray⟩ = ⟨(a ++ b).toArray⟩ := by
  apply ByteArray.ext
  simp [ByteArray.data_append]
theorem cutL_head (l : List UInt8) (k : Nat) : cutL l 0 k = l.take k := by simp [cutL]
theorem cutL_tail (l : List UInt8) (f k : Nat) (h : l.length ≤ k) : cutL l f k = l.drop f := by rw [cutL_full h]
theorem new_cells3 (w : World) (v u x : Value) (e : Nat) : ∀ (j : Nat) y, [v, u, x][j]? = some y → (w.alloc (.cells #[v, u, x] e)).cell? ((⟨w.heap.size, 0, none⟩ : Addr).add j) = some y := by
  intro j y hj
  match j, hj with
  | 0, hj => simp at hj; subst hj; simp [Addr.add]
  | 1, hj => simp at hj; subst hj; simp [Addr.add]
  | 2, hj => simp at hj; subst hj; simp [Addr.add]
end Go.Proofs.YtkejdbidomlonaaGreatDoor

namespace Go.Proofs.YtkejdbidomlonaaGreatDoor
open Go.RowKit

theorem new_cells4 (w : World) (v u x z : Value) (e : Nat) : ∀ (j : Nat) y, [v, u, x, z][j]? = some y → (w.alloc (.cells #[v, u, x, z] e)).cell? ((⟨w.heap.size, 0, none⟩ : Addr).add j) = some y := by
  intro j y hj
  match j, hj with
  | 0, hj => simp at hj; subst hj; simp [Addr.add]
  | 1, hj => simp at hj; subst hj; simp [Addr.add]
  | 2, hj => simp at hj; subst hj; simp [Addr.add]
  | 3, hj => simp at hj; subst hj; simp [Addr.add]
theorem below_setT {B : Nat} {w w' : World} (h : Below B w w') {g : Nat} (hg : B ≤ g) (o : Nat) (u : Value) : Below B w (w'.setCell ⟨g, o, none⟩ u) := h.setCell (p := ⟨g, o, none⟩) hg u
theorem own_on {w w' : World} {base e k n : Nat} {v : Value} {xs : List Value} (h : w.ownsRow base e k v n xs) (hb : Below w.heap.size w w') : w'.ownsRow base e k v n xs :=
  h.kept (⟨hb.os, hb.tape, hb.output, hb.size, fun k hk _ => hb.block k hk⟩ : w.grownBy w' none) (by
    rcases h.2 with ⟨h, _⟩ | ⟨g, cap, cur, h, _⟩
    · rw [h]; exact .inl rfl
    · rw [h]; exact .inr (by simp [Value.ownBlock]))
theorem box4 {w : World} {g : Nat} {v u x z : Value} {t : TypeId} (h : w.heap[g]? = some (.cells #[v, u, x, z] t (0, 0))) :
    (w.cell? ⟨g, 0, none⟩ = some v ∧ w.cell? ⟨g, 1, none⟩ = some u ∧ w.cell? ⟨g, 2, none⟩ = some x ∧ w.cell? ⟨g, 3, none⟩ = some z) ∧
    (w.frozen? ⟨g, 0, none⟩ = false ∧ w.frozen? ⟨g, 1, none⟩ = false ∧ w.frozen? ⟨g, 2, none⟩ = false ∧ w.frozen? ⟨g, 3, none⟩ = false) ∧
    ((w.cell? ⟨g, 0, none⟩).isSome = true ∧ (w.cell? ⟨g, 1, none⟩).isSome = true ∧ (w.cell? ⟨g, 2, none⟩).isSome = true ∧ (w.cell? ⟨g, 3, none⟩).isSome = true) := by
  have h0 := heap_cell h (j := 0) (v := v) rfl
  have h1 := heap_cell h (j := 1) (v := u) rfl
  have h2 := heap_cell h (j := 2) (v := x) rfl
  have h3 := heap_cell h (j := 3) (v := z) rfl
  exact ⟨⟨h0, h1, h2, h3⟩, ⟨heap_free h 0, heap_free h 1, heap_free h 2, heap_free h 3⟩, ⟨is_some h0, is_some h1, is_some h2, is_some h3⟩⟩
end Go.Proofs.YtkejdbidomlonaaGreatDoor

namespace Go.Proofs.YtkejdbidomlonaaGreatDoor
open Go.RowKit

abbrev prtC (p : Prt) : List Value := [S p.1, .int .i64 p.2]
abbrev PrtV (p : Prt) : Value := .agg #[S p.1, .int .i64 p.2]
abbrev PrtRow := Row prtC
abbrev entC (e : Ent) : List Value := [S e.1, .int .i64 e.2.1, .bool e.2.2.1, S e.2.2.2]
abbrev EntV (e : Ent) : Value := .agg #[S e.1, .int .i64 e.2.1, .bool e.2.2.1, S e.2.2.2]
abbrev EntRow := Row entC
theorem infoPrt : (Tryz.prog.info? 100).map (fun i => (i.zero, i.size, i.bytes)) = some (some (.agg #[.string ⟨#[]⟩, .int .i64 0]), 2, 24) := by kernel_rfl
theorem infoEnt : (Tryz.prog.info? 80).map (fun i => (i.zero, i.size, i.bytes)) = some (some (.agg #[.string ⟨#[]⟩, .int .i64 0, .bool false, .string ⟨#[]⟩]), 4, 48) := by kernel_rfl
theorem prt_cells {w : World} {b o : Nat} {xs : List Prt} (h : ∀ j x, xs[j]? = some x → ∀ i u, (prtC x)[i]? = some u → w.cell? ⟨b, o + j * (prtC x).length + i, none⟩ = some u) {j : Nat} (hj : j < xs.length) :
    w.cell? ⟨b, o + j * 2, none⟩ = some (S xs[j].1) ∧ w.cell? ⟨b, o + j * 2 + 1, none⟩ = some (.int .i64 xs[j].2) :=
  ⟨h j xs[j] (by simp [hj]) 0 _ rfl, h j xs[j] (by simp [hj]) 1 _ rfl⟩
theorem ent_cells {w : World} {b o : Nat} {xs : List Ent} (h : ∀ j x, xs[j]? = some x → ∀ i u, (entC x)[i]? = some u → w.cell? ⟨b, o + j * (entC x).length + i, none⟩ = some u) {j : Nat} (hj : j < xs.length) :
    w.cell? ⟨b, o + j * 4, none⟩ = some (S xs[j].1) ∧ w.cell? ⟨b, o + j * 4 + 1, none⟩ = some (.int .i64 xs[j].2.1) ∧ w.cell? ⟨b, o + j * 4 + 2, none⟩ = some (.bool xs[j].2.2.1) ∧ w.cell? ⟨b, o + j * 4 + 3, none⟩ = some (S xs[j].2.2.2) :=
  ⟨h j xs[j] (by simp [hj]) 0 _ rfl, h j xs[j] (by simp [hj]) 1 _ rfl, h j xs[j] (by simp [hj]) 2 _ rfl, h j xs[j] (by simp [hj]) 3 _ rfl⟩
theorem prt2_one (x : Prt) : ∀ u ∈ prtC x, u.oneCell' = true := by
  intro u hu; simp at hu; rcases hu with rfl | rfl <;> rfl
theorem ent4_one (x : Ent) : ∀ u ∈ entC x, u.oneCell' = true := by
  intro u hu; simp at hu; rcases hu with rfl | rfl | rfl | rfl <;> rfl
/-- A node as a value, of the rows' values. -/
abbrev NodV (n : Nod) (vp ve : Value) : Value := .agg #[.int .i64 n.kind, S n.data, vp, ve]
structure NodRow (w : World) (n : Nod) (vp ve : Value) : Prop where
  parts : PrtRow w vp n.parts
  ents : EntRow w ve n.ents
theorem NodRow.below {w w' : World} {n : Nod} {vp ve : Value} (h : NodRow w n vp ve) (hb : Below w.heap.size w w') : NodRow w' n vp ve := ⟨h.parts.below hb, h.ents.below hb⟩
/-- A box of two cells. -/
theorem box2 {w : World} {g : Nat} {v u : Value} {t : TypeId} (h : w.heap[g]? = some (.cells #[v, u] t (0, 0))) :
    (w.cell? ⟨g, 0, none⟩ = some v ∧ w.cell? ⟨g, 1, none⟩ = some u) ∧ (w.frozen? ⟨g, 0, none⟩ = false ∧ w.frozen? ⟨g, 1, none⟩ = false) ∧ ((w.cell? ⟨g, 0, none⟩).isSome = true ∧ (w.cell? ⟨g, 1, none⟩).isSome = true) := by
  have h0 := heap_cell h (j := 0) (v := v) rfl
  have h1 := heap_cell h (j := 1) (v := u) rfl
  exact ⟨⟨h0, h1⟩, ⟨heap_free h 0, heap_free h 1⟩, ⟨is_some h0, is_some h1⟩⟩
theorem row_slice {α : Type} {f : α → List Value} {w : World} {v : Value} {l : List α} (h : Row f w v l) : ∃ a c, v = .slice a l.length c := by
  obtain ⟨a, c, h1, _⟩ := h
  exact ⟨a, c, h1⟩
end Go.Proofs.YtkejdbidomlonaaGreatDoor

namespace Go.Proofs.YtkejdbidomlonaaGreatDoor
open Go.RowKit

theorem okByte_true {c : UInt8} (h : okByte c = true) : ((c.toNat : Int) == 0) = false ∧ ((c.toNat : Int) == 47) = false := by
  simp only [okByte, Bool.and_eq_true, Bool.not_eq_true', beq_eq_false_iff_ne, ne_eq] at h
  constructor
  · rw [beq_eq_false_iff_ne]; intro e; exact h.1 (UInt8.toNat_inj.1 (by simpa using e))
  · rw [beq_eq_false_iff_ne]; intro e; exact h.2 (UInt8.toNat_inj.1 (by simp; omega))
theorem okByte_false {c : UInt8} (h : okByte c = false) : c = 0 ∨ c = 47 := by
  simp only [okByte, Bool.and_eq_false_iff, Bool.not_eq_false', beq_iff_eq] at h
  exact h
theorem all_take_succ (l : List UInt8) (k : Nat) (h : k < l.length) : (l.take (k + 1)).all okByte = ((l.take k).all okByte && okByte l[k]) := by
  rw [List.take_succ_eq_append_getElem h, List.all_append]; simp
theorem all_bad {l : List UInt8} {k : Nat} (h : k < l.length) (hb : okByte l[k] = false) : l.all okByte = false := by
  rw [Bool.eq_false_iff]; intro ha; rw [List.all_eq_true] at ha; have := ha _ (List.getElem_mem h); rw [hb] at this; cases this

set_option maxHeartbeats 400000 in
theorem rname_walk (l : List UInt8) (w : World) (hl : l.length ≤ 1100000) :
    Calls Tryz.prog 68 #[S l] w fun e w' => e = .returned (.bool (nameB l)) ∧ w = w' := by
  by_cases hb : (l.isEmpty || decide (31 < l.length) || l == [46] || l == [46, 46]) = true
  · have HB := Lib.hid (show nameB l = false by unfold nameB; rw [hb]; rfl)
    rw [HB.out]
    by_cases h1 : l = []
    · subst h1
      go_enter Tryz.func68, Tryz.ntmps68
      go_wp2
      go_ret
      exact ⟨rfl, rfl⟩
    · have h1' : l.isEmpty = false := by simpa using h1
      clear h1
      by_cases h2 : (31 : Int) < (l.length : Int)
      · go_enter Tryz.func68, Tryz.ntmps68
        go_wp2
        go_ret
        exact ⟨rfl, rfl⟩
      · simp only [h1', Bool.false_or, Bool.or_eq_true, decide_eq_true_eq, beq_iff_eq] at hb
        rcases hb with (hb | hb) | hb
        · omega
        · subst hb
          go_enter Tryz.func68, Tryz.ntmps68
          go_wp2
          go_ret
          exact ⟨rfl, rfl⟩
        · subst hb
          go_enter Tryz.func68, Tryz.ntmps68
          go_wp2
          go_ret
          exact ⟨rfl, rfl⟩
  · have hb' : (l.isEmpty || decide (31 < l.length) || l == [46] || l == [46, 46]) = false := by simpa using hb
    simp only [Bool.or_eq_false_iff] at hb'
    obtain ⟨⟨⟨h1, h2⟩, h3⟩, h4⟩ := hb'
    have HN := Lib.hid (show nameB l = l.all okByte by unfold nameB; rw [h1, h2, h3, h4]; rfl)
    have h2' : (l.length : Int) ≤ 31 := by simp at h2; omega
    clear hb h2
    go_enter Tryz.func68, Tryz.ntmps68
    go_wp2
    go_loop [3] (fun i => ∃ k : Nat, k ≤ l.length ∧ i = .int .i64 k ∧ (l.take k).all okByte = true) (fun i => l.length - (intOf i).toNat)
    case atStart => exact ⟨0, Nat.zero_le _, rfl, rfl⟩
    case round =>
      obtain ⟨k, hk, rfl, ha⟩ := hrel
      have HA := Lib.hid ha
      clear ha
      by_cases hlt : k < l.length
      · have HS := Lib.hid (all_take_succ l k hlt)
        cases hok : okByte l[k]
        · have HF := Lib.hid (all_bad hlt hok)
          have hc := okByte_false hok
          clear hok
          rcases hc with hc | hc
          · have hc' : (({ data := l.toArray } : ByteArray)[k]'hlt).toNat = 0 := by show (l[k]).toNat = 0; rw [hc]; rfl
            clear hc
            go_wp2
            go_ret
            exact ⟨ret_bool (by rw [HN.out, HF.out]), rfl⟩
          · have hc' : (({ data := l.toArray } : ByteArray)[k]'hlt).toNat = 47 := by show (l[k]).toNat = 47; rw [hc]; rfl
            clear hc
            go_wp2
            go_ret
            exact ⟨ret_bool (by rw [HN.out, HF.out]), rfl⟩
        · have hc0 : (((({ data := l.toArray } : ByteArray)[k]'hlt).toNat : Int) == 0) = false := (okByte_true hok).1
          have hc1 : (((({ data := l.toArray } : ByteArray)[k]'hlt).toNat : Int) == 47) = false := (okByte_true hok).2
          have HO := Lib.hid hok
          clear hok
          go_wp2
          go_round
          case rel => exact ⟨k + 1, by omega, by go_num, by rw [HS.out, HA.out, HO.out]; rfl⟩
          case measure => simp [intOf]; omega
      · go_wp2
        go_ret
        exact ⟨ret_bool (by rw [HN.out]; have := HA.out; rw [List.take_of_length_le (by omega)] at this; exact this.symm), rfl⟩
end Go.Proofs.YtkejdbidomlonaaGreatDoor

namespace Go.Proofs.YtkejdbidomlonaaGreatDoor
open Go.RowKit

def fileB (l : List Prt) : Bool := l.all partOk && decide (wholeP l ≤ 32768)
theorem whole_step {l : List Prt} {k : Nat} (h : k < l.length) : wholeP (l.take (k + 1)) = wholeP (l.take k) + l[k].2 := by
  unfold wholeP
  rw [List.take_succ_eq_append_getElem h, List.map_append, List.sum_append]; simp
theorem whole_bound : ∀ l : List Prt, l.all partOk = true → 0 ≤ wholeP l ∧ wholeP l ≤ 4096 * l.length
  | [], _ => by simp [wholeP]
  | p :: l, h => by
    rw [List.all_cons, Bool.and_eq_true] at h
    have ih := whole_bound l h.2
    have hp := h.1
    unfold partOk at hp
    simp only [Bool.and_eq_true, beq_iff_eq, decide_eq_true_eq] at hp
    have e : wholeP (p :: l) = p.2 + wholeP l := by simp [wholeP]
    rw [e, List.length_cons]
    omega

set_option maxHeartbeats 2000000 in
set_option maxRecDepth 100000 in
theorem rfile11_walk (v : Value) (l : List Prt) (w : World) (hr : PrtRow w v l) (hcnt : l.length ≤ 2000) :
    Calls Tryz.prog 97 #[v] w fun e w' => e = .returned (.bool (fileB l)) ∧ Below w.heap.size w w' := by
  obtain ⟨a, c, rfl, hc, hm, hx⟩ := hr
  have HX := Lib.hid hx
  clear hx
  go_enter Tryz.func97, Tryz.ntmps97
  go_wp2
  go_loopw [3, 4] (fun n i wr => ∃ k : Nat, k ≤ l.length ∧ i = .int .i64 k ∧ n = .int .i64 (wholeP (l.take k)) ∧ (l.take k).all partOk = true ∧ w = wr) (fun _ i _ => l.length - (intOf i).toNat)
  case atStart => exact ⟨0, Nat.zero_le _, rfl, by simp [wholeP], by simp, rfl⟩
  case round =>
    obtain ⟨k, hk, rfl, rfl, hall, rfl⟩ := hrel
    have hwb := whole_bound _ hall
    rw [List.length_take, Nat.min_eq_left hk] at hwb
    have HALL := Lib.hid hall
    clear hall
    by_cases h1 : k < l.length
    · have h1' : (k : Int) < (l.length : Int) := by omega
      have hx := HX.out
      rcases hx with hx | ⟨b, o, rfl, hx⟩
      · exfalso; rw [hx] at h1; simp at h1
      obtain ⟨hc1, hc2⟩ := prt_cells hx h1
      have HW := Lib.hid (whole_step h1)
      have HYES := Lib.hid (fun (h : partOk l[k] = true) => (show (l.take (k + 1)).all partOk = true by
        rw [List.take_succ_eq_append_getElem h1, List.all_append, HALL.out]; simp [h]))
      have HNO := Lib.hid (fun (h : partOk l[k] = false) => (show fileB l = false by
        unfold fileB
        rw [show l.all partOk = false by rw [List.all_eq_false]; exact ⟨_, List.getElem_mem h1, by simp [h]⟩]; rfl))
      have HDEF := Lib.hid (show partOk l[k] = (l[k].1.length == 32 && (decide (1 ≤ l[k].2) && decide (l[k].2 ≤ 4096))) from rfl)
      clear hx
      generalize wholeP (l.take k) = wh at *
      generalize l[k] = y at *
      obtain ⟨key, sz⟩ := y
      simp only at hc1 hc2 HW HYES HNO HDEF
      by_cases g1 : key.length = 32
      · have g1' : ((key.length : Int) != 32) = false := by rw [bne_eq_false_iff_eq]; omega
        by_cases g2 : sz < 1
        · have HF := Lib.hid (HNO.out (by rw [HDEF.out, decide_eq_false (show ¬ 1 ≤ sz by omega)]; simp))
          clear HYES HNO HDEF g1
          go_wp2
          go_ret
          exact ⟨by rw [HF.out]; rfl, Below.refl _ _⟩
        · by_cases g3 : 4096 < sz
          · have HF := Lib.hid (HNO.out (by rw [HDEF.out, decide_eq_false (show ¬ sz ≤ 4096 by omega)]; simp))
            clear HYES HNO HDEF g1
            go_wp2
            go_ret
            exact ⟨by rw [HF.out]; rfl, Below.refl _ _⟩
          · have HF := Lib.hid (HYES.out (by rw [HDEF.out, decide_eq_true (show 1 ≤ sz by omega), decide_eq_true (show sz ≤ 4096 by omega)]; simpa using g1))
            have hwr : IntKind.i64.wrap (wh + sz) = wh + sz := by rw [IntKind.wrap_i64]; omega
            clear HYES HNO HDEF g1
            go_wp2
            go_roundw
            case rel => exact ⟨k + 1, by omega, by go_num, by rw [HW.out], HF.out, by first | rfl | trivial⟩
            case measure => simp [intOf]; omega
      · have g1' : ((key.length : Int) != 32) = true := by rw [bne_iff_ne]; omega
        have HF := Lib.hid (HNO.out (by rw [HDEF.out]; simp [g1]))
        clear HYES HNO HDEF g1
        go_wp2
        go_ret
        exact ⟨by rw [HF.out]; rfl, Below.refl _ _⟩
    · have h1' : ¬ (k : Int) < (l.length : Int) := by omega
      obtain rfl : k = l.length := by omega
      have hall := HALL.out
      rw [List.take_of_length_le (Nat.le_refl _)] at hall hwb ⊢
      have HF := Lib.hid (show fileB l = decide (wholeP l ≤ 32768) by unfold fileB; rw [hall]; rfl)
      generalize wholeP l = wh at *
      clear HALL hall
      go_wp2
      go_ret
      exact ⟨by rw [HF.out]; rfl, Below.refl _ _⟩

theorem dir_step {l : List Ent} {k : Nat} (h1 : k < l.length) (hu : risesE (l.take k)) (h : ∀ h0 : 0 < k, (l[k - 1]'(by omega)).1 < l[k].1) : risesE (l.take (k + 1)) := by
  unfold risesE at *
  rw [List.take_succ_eq_append_getElem h1, List.map_append, List.pairwise_append]
  refine ⟨hu, by simp, ?_⟩
  intro x hx y hy
  simp only [List.map_cons, List.map_nil, List.mem_singleton] at hy
  subst hy
  rcases Nat.eq_zero_or_pos k with h0 | h0
  · subst h0; simp at hx
  · have hlast := h h0
    have e : l.take k = l.take (k - 1) ++ [l[k - 1]'(by omega)] := by
      have := List.take_succ_eq_append_getElem (l := l) (i := k - 1) (by omega)
      rwa [show k - 1 + 1 = k by omega] at this
    rw [e, List.map_append, List.pairwise_append] at hu
    rw [e, List.map_append, List.mem_append] at hx
    rcases hx with hx | hx
    · exact List.lt_trans (hu.2.2 x hx _ (by simp)) hlast
    · simp only [List.map_cons, List.map_nil, List.mem_singleton] at hx
      subst hx; exact hlast
theorem dir_not {l : List Ent} {k : Nat} (h1 : k < l.length) (h0 : 0 < k) (h : ¬ (l[k - 1]'(by omega)).1 < l[k].1) : ¬ risesE l := by
  intro hu
  unfold risesE at hu
  rw [List.pairwise_map] at hu
  exact h (List.pairwise_iff_getElem.1 hu (k - 1) k (by omega) h1 (by omega))
noncomputable def dirB (l : List Ent) : Bool := l.all entOk && @decide (risesE l) (Classical.propDecidable _)
theorem dirB_iff {l : List Ent} : dirB l = true ↔ (∀ e ∈ l, entOk e = true) ∧ risesE l := by
  unfold dirB
  rw [Bool.and_eq_true, List.all_eq_true, @decide_eq_true_iff _ (Classical.propDecidable _)]
theorem dirB_no {l : List Ent} (h : ¬ ((∀ e ∈ l, entOk e = true) ∧ risesE l)) : dirB l = false := by
  cases e : dirB l with
  | false => rfl
  | true => exact absurd (dirB_iff.1 e) h

set_option maxHeartbeats 8000000 in
set_option maxRecDepth 100000 in
theorem rdir11_walk (v : Value) (l : List Ent) (w : World) (hr : EntRow w v l) (hcnt : l.length ≤ 2000) (hnl : ∀ e ∈ l, e.1.length ≤ 1100000) :
    Calls Tryz.prog 98 #[v] w fun e w' => e = .returned (.bool (dirB l)) ∧ Below w.heap.size w w' := by
  have HN := Lib.hid (fun h : ¬ ((∀ e ∈ l, entOk e = true) ∧ risesE l) => dirB_no h)
  have HY := Lib.hid (fun h : (∀ e ∈ l, entOk e = true) ∧ risesE l => dirB_iff.2 h)
  generalize dirB l = res at *
  obtain ⟨a, c, rfl, hc, hm, hx⟩ := hr
  have HX := Lib.hid hx
  have HNL := Lib.hid hnl
  clear hx hnl
  go_enter Tryz.func98, Tryz.ntmps98
  go_wp2
  go_loopw [3] (fun i wr => ∃ k : Nat, k ≤ l.length ∧ i = .int .i64 k ∧ (∀ e ∈ l.take k, entOk e = true) ∧ risesE (l.take k) ∧ Below w.heap.size w wr) (fun i _ => l.length - (intOf i).toNat)
  case atStart => exact ⟨0, Nat.zero_le _, rfl, by simp, by simp [risesE], Below.refl _ _⟩
  case round =>
    obtain ⟨k, hk, rfl, ha, hu, hB⟩ := hrel
    have HA := Lib.hid ha
    have HU := Lib.hid hu
    have HB := Lib.hid hB
    clear ha hu
    by_cases h1 : k < l.length
    · have h1' : (k : Int) < (l.length : Int) := by omega
      have hx := HX.out
      rcases hx with hx | ⟨b, o, rfl, hx⟩
      · exfalso; rw [hx] at h1; simp at h1
      obtain ⟨hx1, hx2, hx3, hx4⟩ := ent_cells hx h1
      have hc1 := cell_below hB hx1
      have hc2 := cell_below hB hx2
      have hc3 := cell_below hB hx3
      have hc4 := cell_below hB hx4
      have HOK := Lib.hid (fun (h : entOk l[k] = true) => (show ∀ e ∈ l.take (k + 1), entOk e = true by
        intro e he
        rw [List.take_succ_eq_append_getElem h1] at he
        rcases List.mem_append.1 he with he | he
        · exact HA.out e he
        · simp at he; subst he; exact h))
      have HNO := Lib.hid (fun (h : entOk l[k] = false) => HN.out (fun q => by have := q.1 _ (List.getElem_mem h1); rw [h] at this; cases this))
      have HDEF := Lib.hid (show entOk l[k] = ((l[k].2.1 == 2 || l[k].2.1 == 3 && !l[k].2.2.1) && (l[k].2.2.2.length == 32 && nameB l[k].1)) from rfl)
      have HUS := Lib.hid (fun h => dir_step h1 HU.out h)
      have HDN := Lib.hid (fun h0 h => HN.out (fun q => dir_not h1 h0 h q.2))
      have hnl1 := HNL.out l[k] (List.getElem_mem h1)
      have hprev : k = 0 ∨ (0 < k ∧ ∃ p0 : List UInt8, p0 = (l[k - 1]'(by omega)).1 ∧ w.cell? ⟨b, o + (k - 1) * 4, none⟩ = some (S p0)) := by
        rcases Nat.eq_zero_or_pos k with h0 | h0
        · exact .inl h0
        · exact .inr ⟨h0, _, rfl, (ent_cells hx (j := k - 1) (by omega)).1⟩
      obtain ⟨w1, hw1, hB1, hr0⟩ : ∃ w1, w1 = wr.alloc (.cells #[S l[k].1, .int .i64 l[k].2.1, .bool l[k].2.2.1, S l[k].2.2.2] 80) ∧ Below wr.heap.size wr w1 ∧ w1.heap[wr.heap.size]? = some (.cells #[S l[k].1, .int .i64 l[k].2.1, .bool l[k].2.2.1, S l[k].2.2.2] 80 (0, 0)) :=
        ⟨_, rfl, (Below.refl _ _).alloc (Nat.le_refl _) _, heap_alloc_new _ _⟩
      have HB1 := Lib.hid (below_chain HB.out hB1 HB.out.size)
      have CN : ∀ p : LaterOf w1, Calls Tryz.prog 68 #[S l[k].1] p.world fun e w' => e = .returned (.bool (nameB l[k].1)) ∧ w' = p.world := fun p => (rname_walk l[k].1 p.world hnl1).mono fun _ _ h => ⟨h.1, h.2.symm⟩
      obtain ⟨⟨r0, r1, r2, r3⟩, -, -⟩ := box4 hr0
      replace r0 := LaterOf.cell r0
      replace r1 := LaterOf.cell r1
      replace r2 := LaterOf.cell r2
      replace r3 := LaterOf.cell r3
      have hord : (k = 0 ∧ ¬ (0 : Int) < (k : Int)) ∨ (∃ p0 : List UInt8, ∃ h0 : 0 < k, p0 = (l[k - 1]'(by omega)).1 ∧ (∀ q : LaterOf w1, q.world.cell? ⟨b, o + (k - 1) * 4, none⟩ = some (S p0))) := by
        rcases hprev with h0 | ⟨h0, p0, hp0, hp2⟩
        · exact .inl ⟨h0, by omega⟩
        · exact .inr ⟨p0, h0, hp0, LaterOf.cell (cell_below HB1.out hp2)⟩
      clear hx hx1 hx2 hx3 hx4 hB hr0 hprev hB1
      go_upto_region 5 with fail
      rw [← hw1]
      clear hw1 hc1 hc2 hc3 hc4
      generalize l[k] = y at *
      obtain ⟨nm, kd, ex, key⟩ := y
      simp only at r0 r1 r2 r3 CN HUS HDN HDEF hnl1
      generalize nameB nm = nb at *
      cases nb with
      | false =>
        have HF := Lib.hid (HNO.out (by rw [HDEF.out]; simp))
        clear hord
        (refine wp_region_later (by kernel_rfl) (by kernel_rfl) ?_; (repeat (go_big_quiet_step (first | (go_at_call 68; exact LaterOf.still _ (CN _))))); refine wpQuiet_nil ?_; intro _ hw1; obtain ⟨lw, hw2⟩ := hw1; subst hw2)
        go_wp2
        go_ret
        exact ⟨by rw [HF.out]; rfl, below_chain HB1.out lw.below HB1.out.size⟩
      | true =>
        obtain ⟨b2, f2⟩ : ∃ q, (kd != 2) = q := ⟨_, rfl⟩
        obtain ⟨b3, f3⟩ : ∃ q, (kd != 3) = q := ⟨_, rfl⟩
        obtain ⟨bk, fk⟩ : ∃ q, ((key.length : Int) != 32) = q := ⟨_, rfl⟩
        have HDEF2 := Lib.hid (show entOk (nm, kd, ex, key) = ((!b2 || (!b3 && !ex)) && !bk) by
          have e2 : (kd == 2) = !b2 := by rw [← f2, bne, Bool.not_not]
          have e3 : (kd == 3) = !b3 := by rw [← f3, bne, Bool.not_not]
          have ek : (key.length == 32) = !bk := by
            rw [← fk, bne, Bool.not_not, Bool.eq_iff_iff, beq_iff_eq, beq_iff_eq]; omega
          rw [HDEF.out, e2, e3, ek]
          cases b2 <;> cases b3 <;> cases ex <;> cases bk <;> rfl)
        clear HDEF
        have hcase : (∃ h : k = 0, True) ∨ (∃ p0 : List UInt8, ∃ h0 : 0 < k, p0 = (l[k - 1]'(by omega)).1 ∧ (∀ q : LaterOf w1, q.world.cell? ⟨b, o + (k - 1) * 4, none⟩ = some (S p0)) ∧ ((p0 < nm ∧ Op.bytesLess p0 nm = true) ∨ (¬ p0 < nm ∧ Op.bytesLess p0 nm = false))) := by
          rcases hord with ⟨h0, _⟩ | ⟨p0, h0, hp0, hpc⟩
          · exact .inl ⟨h0, trivial⟩
          · refine .inr ⟨p0, h0, hp0, hpc, ?_⟩
            rw [bytesLess_eq]
            by_cases h : p0 < nm
            · exact .inl ⟨h, by simpa using h⟩
            · exact .inr ⟨h, by simpa using h⟩
        clear hord
        rcases hcase with ⟨h0, -⟩ | ⟨p0, h0, hp0, hpc, ⟨hlt, hbl⟩ | ⟨hlt, hbl⟩⟩
        · have HU2 := Lib.hid (HUS.out (fun h => by omega))
          have hk1 : ¬ (0 : Int) < (k : Int) := by omega
          have hkd : decide (0 < k) = false := decide_eq_false (by omega)
          clear h0 HUS HDN
          cases b2 <;> cases b3 <;> cases ex <;> cases bk
          all_goals first
          | (have HF := Lib.hid (HNO.out (by rw [HDEF2.out]; rfl)); clear HOK HNO HDEF2; (refine wp_region_later (by kernel_rfl) (by kernel_rfl) ?_; (repeat (go_big_quiet_step (first | (go_at_call 68; exact LaterOf.still _ (CN _))))); refine wpQuiet_nil ?_; intro _ hw1; obtain ⟨lw, hw2⟩ := hw1; subst hw2); go_wp2; go_ret; exact ⟨by rw [HF.out]; rfl, below_chain HB1.out lw.below HB1.out.size⟩)
          | (have HF := Lib.hid (HOK.out (by rw [HDEF2.out]; rfl)); clear HOK HNO HDEF2; (refine wp_region_later (by kernel_rfl) (by kernel_rfl) ?_; (repeat (go_big_quiet_step (first | (go_at_call 68; exact LaterOf.still _ (CN _))))); refine wpQuiet_nil ?_; intro _ hw1; obtain ⟨lw, hw2⟩ := hw1; subst hw2); go_wp2; go_roundw; (case rel => exact ⟨k + 1, by omega, by go_num, HF.out, HU2.out, below_chain HB1.out lw.below HB1.out.size⟩); (case measure => simp [intOf]; omega))
        · have HU2 := Lib.hid (HUS.out (fun _ => by rw [← hp0]; exact hlt))
          have hk1 : (0 : Int) < (k : Int) := by omega
          have hkd : decide (0 < k) = true := decide_eq_true h0
          have hwr : IntKind.i64.wrap ((k : Int) - 1) = ((k - 1 : Nat) : Int) := by rw [IntKind.wrap_i64]; omega
          have hkm : k - 1 < l.length := by omega
          have hkm' : ((k - 1 : Nat) : Int) < (l.length : Int) := by omega
          clear hp0 hlt HUS HDN
          cases b2 <;> cases b3 <;> cases ex <;> cases bk
          all_goals first
          | (have HF := Lib.hid (HNO.out (by rw [HDEF2.out]; rfl)); clear HOK HNO HDEF2; (refine wp_region_later (by kernel_rfl) (by kernel_rfl) ?_; (repeat (go_big_quiet_step (first | (go_at_call 68; exact LaterOf.still _ (CN _))))); refine wpQuiet_nil ?_; intro _ hw1; obtain ⟨lw, hw2⟩ := hw1; subst hw2); go_wp2; go_ret; exact ⟨by rw [HF.out]; rfl, below_chain HB1.out lw.below HB1.out.size⟩)
          | (have HF := Lib.hid (HOK.out (by rw [HDEF2.out]; rfl)); clear HOK HNO HDEF2; (refine wp_region_later (by kernel_rfl) (by kernel_rfl) ?_; (repeat (go_big_quiet_step (first | (go_at_call 68; exact LaterOf.still _ (CN _))))); refine wpQuiet_nil ?_; intro _ hw1; obtain ⟨lw, hw2⟩ := hw1; subst hw2); go_wp2; go_roundw; (case rel => exact ⟨k + 1, by omega, by go_num, HF.out, HU2.out, below_chain HB1.out lw.below HB1.out.size⟩); (case measure => simp [intOf]; omega))
        · have HF := Lib.hid (HDN.out h0 (by rw [← hp0]; exact hlt))
          have hk1 : (0 : Int) < (k : Int) := by omega
          have hkd : decide (0 < k) = true := decide_eq_true h0
          have hwr : IntKind.i64.wrap ((k : Int) - 1) = ((k - 1 : Nat) : Int) := by rw [IntKind.wrap_i64]; omega
          have hkm : k - 1 < l.length := by omega
          have hkm' : ((k - 1 : Nat) : Int) < (l.length : Int) := by omega
          clear hp0 hlt HUS HDN HOK HNO HDEF2 f2 f3 fk
          (refine wp_region_later (by kernel_rfl) (by kernel_rfl) ?_; (repeat (go_big_quiet_step (first | (go_at_call 68; exact LaterOf.still _ (CN _))))); refine wpQuiet_nil ?_; intro _ hw1; obtain ⟨lw, hw2⟩ := hw1; subst hw2)
          go_wp2
          go_ret
          exact ⟨by rw [HF.out]; rfl, below_chain HB1.out lw.below HB1.out.size⟩
    · have h1' : ¬ (k : Int) < (l.length : Int) := by omega
      have HF := Lib.hid (HY.out (by
        have h2 := HA.out
        have h3 := HU.out
        rw [List.take_of_length_le (by omega)] at h2 h3
        exact ⟨h2, h3⟩))
      go_wp2
      go_ret
      exact ⟨by rw [HF.out]; rfl, HB.out⟩
end Go.Proofs.YtkejdbidomlonaaGreatDoor
