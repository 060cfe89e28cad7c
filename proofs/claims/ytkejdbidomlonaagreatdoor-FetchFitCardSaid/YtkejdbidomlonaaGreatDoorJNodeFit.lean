/- How much a fit node holds. Rows of elements of K cells: what a call owns reads as such a row. Boxes of four cells; rows that stay. Nodes, their parts and entries in memory. The reference's Name. -/
import Derived.Test.YtkejdbidomlonaaGreatDoorNodePlain
import Derived.Test.YtkejdbidomlonaaGreatDoorRowK
import Derived.Test.YtkejdbidomlonaaGreatDoorJPlain
namespace Go.Proofs.YtkejdbidomlonaaGreatDoor

theorem fit_sizes {n : Nod} (hf : FitN n) : n.parts.length ≤ 1024 ∧ n.ents.length ≤ 60 ∧ n.data.length ≤ 4096 ∧ (∀ p ∈ n.parts, partOk p = true) ∧ (∀ e ∈ n.ents, entOk e = true) ∧ 1 ≤ n.kind ∧ n.kind ≤ 3 := by
  rcases hf with ⟨h1, h2, h3, h4, h5⟩ | ⟨h1, h2, h3, h4⟩ | ⟨h1, h2, h3, h4⟩
  · rw [h4, h5]; exact ⟨by simp, by simp, h3, by simp, by simp, by omega, by omega⟩
  · rw [h2, h3]; exact ⟨h4.len, by simp, by simp, h4.ok, by simp, by omega, by omega⟩
  · rw [h2, h3]; exact ⟨by simp, h4.len, by simp, by simp, h4.ok, by omega, by omega⟩
end Go.Proofs.YtkejdbidomlonaaGreatDoor

namespace Go.Proofs.YtkejdbidomlonaaGreatDoor
open Go.RowKit

section
variable {α : Type} {f : α → List Value} {K : Nat}
theorem flat_atK (hf : ∀ x, (f x).length = K) : ∀ (l : List α) (j : Nat) (x : α) (i : Nat) (u : Value), l[j]? = some x → (f x)[i]? = some u → (l.flatMap f)[j * K + i]? = some u
  | [], j, x, i, u, h, _ => by simp at h
  | y :: ys, 0, x, i, u, h, hu => by
    simp at h; subst h
    rw [List.flatMap_cons, Nat.zero_mul, Nat.zero_add, List.getElem?_append_left (List.getElem?_eq_some_iff.1 hu).1]
    exact hu
  | y :: ys, j + 1, x, i, u, h, hu => by
    have ih := flat_atK hf ys j x i u (by simpa using h) hu
    rw [List.flatMap_cons, List.getElem?_append_right (by rw [hf, Nat.add_mul]; omega)]
    rw [← ih]
    congr 1
    rw [hf, Nat.add_mul]; omega
theorem Row.of_ownsK (hf : ∀ x, (f x).length = K) {w : World} {base e : Nat} {v : Value} {l : List α} (h : w.ownsRow base e K v l.length (l.flatMap f)) : Row f w v l := by
  obtain ⟨_, h⟩ := h
  rcases h with ⟨hv, hn⟩ | ⟨g, cap, cur, hv, _, hh, hc, hm, hs, ht⟩
  · have : l = [] := List.length_eq_zero_iff.1 hn
    subst this; subst hv; exact Row.nil _ w
  · refine ⟨_, _, hv, hc, hm, .inr ⟨g, 0, rfl, fun j x hx i u hu => ?_⟩⟩
    have h1 : cur.toList[j * (f x).length + i]? = some u := by
      have : (cur.toList.take (l.length * K))[j * (f x).length + i]? = some u := by rw [ht, hf]; exact flat_atK hf l j x i u hx hu
      rw [List.getElem?_take] at this
      split at this
      · exact this
      · cases this
    simp only [World.cell?, hh]
    simpa using h1
theorem row_flatK (hf : ∀ x, (f x).length = K) (hK : 0 < K) {w : World} {a : Option Addr} {c : Nat} {l : List α} (hr : Row f w (.slice a l.length c) l) : l.flatMap f = [] ∨ ∃ b o, a = some ⟨b, o, none⟩ ∧ ∀ j u, (l.flatMap f)[j]? = some u → w.cell? ⟨b, o + j, none⟩ = some u := by
  obtain ⟨a', c', hv, _, _, hx⟩ := hr
  cases hv
  rcases hx with hx | ⟨b, o, ha, hx⟩
  · exact .inl (by rw [hx]; rfl)
  · refine .inr ⟨b, o, ha, fun j u hj => ?_⟩
    have hlt : j < (l.flatMap f).length := (List.getElem?_eq_some_iff.1 hj).1
    rw [flat_lenK hf] at hlt
    have hk : j / K < l.length := Nat.div_lt_of_lt_mul (by rw [Nat.mul_comm]; exact hlt)
    have hm : j % K < K := Nat.mod_lt _ hK
    have h1 := hx (j / K) l[j / K] (by simp [hk]) (j % K)
    have h2 := flat_atK hf l (j / K) l[j / K] (j % K)
    have e : j / K * K + j % K = j := Nat.div_add_mod' j K
    have h4 : ∃ v, (f l[j / K])[j % K]? = some v := ⟨_, List.getElem?_eq_getElem (by rw [hf]; exact hm)⟩
    obtain ⟨v, hv⟩ := h4
    have h5 := h2 v (by simp [hk]) hv
    rw [e, hj] at h5
    cases h5
    have h6 := h1 u hv
    rwa [hf, Nat.add_assoc, e] at h6
theorem flat_oneK {l : List α} (h1 : ∀ x ∈ l, ∀ u ∈ f x, u.oneCell' = true) : ∀ u ∈ l.flatMap f, u.oneCell' = true := by
  intro u hu
  obtain ⟨x, hm, hx⟩ := List.mem_flatMap.1 hu
  exact h1 x hm u hx
/-- The cells of one of them. -/
theorem row_at {w : World} {b o : Nat} {l : List α} (h : ∀ j x, l[j]? = some x → ∀ i u, (f x)[i]? = some u → w.cell? ⟨b, o + j * (f x).length + i, none⟩ = some u) {j : Nat} (hj : j < l.length) {i : Nat} {u : Value} (hu : (f l[j])[i]? = some u) :
    w.cell? ⟨b, o + j * (f l[j]).length + i, none⟩ = some u := h j _ (by simp [hj]) i u hu
end
theorem ba_cut (l : List UInt8) (f k : Nat) : ({ data := l.toArray } : ByteArray).extract f k = ⟨(cutL l f k).toArray⟩ := Value.string.inj (S_extract l f k)
theorem ba_cat (a b : List UInt8) : (⟨a.toArray⟩ : ByteArray) ++ ⟨b.toArray⟩ = ⟨(a ++ b).toArray⟩ := by
  apply ByteArray.ext
  simp [ByteArray.data_append]
theorem cutL_head (l : List UInt8) (k : Nat) : cutL l 0 k = l.take k := by simp [cutL]
theorem cutL_tail (l : List UInt8) (f k : Nat) (h : l.length ≤ k) : cutL l f k = l.drop f := by rw [cutL_full h]
theorem new_cells3 (w : World) (v u x : Value) (e : Nat) : ∀ (j : Nat) y, [v, u, x][j]? = some y → (w.alloc (.cells #[v, u, x] e)).cell? ((⟨w.heap.size, 0, none⟩ : Addr).add j) = some y := by
  intro j y hj
  match j, hj with
  | 0, hj => simp at hj; subst hj; simp [Addr.add]
  | 1, hj => simp at hj; subst hj; simp [Addr.add]
  | 2, hj => simp at hj; subst hj; simp [Addr.add]
end Go.Proofs.YtkejdbidomlonaaGreatDoor

namespace Go.Proofs.YtkejdbidomlonaaGreatDoor
open Go.RowKit

theorem new_cells4 (w : World) (v u x z : Value) (e : Nat) : ∀ (j : Nat) y, [v, u, x, z][j]? = some y → (w.alloc (.cells #[v, u, x, z] e)).cell? ((⟨w.heap.size, 0, none⟩ : Addr).add j) = some y := by
  intro j y hj
  match j, hj with
  | 0, hj => simp at hj; subst hj; simp [Addr.add]
  | 1, hj => simp at hj; subst hj; simp [Addr.add]
  | 2, hj => simp at hj; subst hj; simp [Addr.add]
  | 3, hj => simp at hj; subst hj; simp [Addr.add]
theorem below_setT {B : Nat} {w w' : World} (h : Below B w w') {g : Nat} (hg : B ≤ g) (o : Nat) (u : Value) : Below B w (w'.setCell ⟨g, o, none⟩ u) := h.setCell (p := ⟨g, o, none⟩) hg u
theorem own_on {w w' : World} {base e k n : Nat} {v : Value} {xs : List Value} (h : w.ownsRow base e k v n xs) (hb : Below w.heap.size w w') : w'.ownsRow base e k v n xs :=
  h.kept (⟨hb.os, hb.tape, hb.output, hb.size, fun k hk _ => hb.block k hk⟩ : w.grownBy w' none) (by
    rcases h.2 with ⟨h, _⟩ | ⟨g, cap, cur, h, _⟩
    · rw [h]; exact .inl rfl
    · rw [h]; exact .inr (by simp [Value.ownBlock]))
theorem box4 {w : World} {g : Nat} {v u x z : Value} {t : TypeId} (h : w.heap[g]? = some (.cells #[v, u, x, z] t (0, 0))) :
    (w.cell? ⟨g, 0, none⟩ = some v ∧ w.cell? ⟨g, 1, none⟩ = some u ∧ w.cell? ⟨g, 2, none⟩ = some x ∧ w.cell? ⟨g, 3, none⟩ = some z) ∧
    (w.frozen? ⟨g, 0, none⟩ = false ∧ w.frozen? ⟨g, 1, none⟩ = false ∧ w.frozen? ⟨g, 2, none⟩ = false ∧ w.frozen? ⟨g, 3, none⟩ = false) ∧
    ((w.cell? ⟨g, 0, none⟩).isSome = true ∧ (w.cell? ⟨g, 1, none⟩).isSome = true ∧ (w.cell? ⟨g, 2, none⟩).isSome = true ∧ (w.cell? ⟨g, 3, none⟩).isSome = true) := by
  have h0 := heap_cell h (j := 0) (v := v) rfl
  have h1 := heap_cell h (j := 1) (v := u) rfl
  have h2 := heap_cell h (j := 2) (v := x) rfl
  have h3 := heap_cell h (j := 3) (v := z) rfl
  exact ⟨⟨h0, h1, h2, h3⟩, ⟨heap_free h 0, heap_free h 1, heap_free h 2, heap_free h 3⟩, ⟨is_some h0, is_some h1, is_some h2, is_some h3⟩⟩
end Go.Proofs.YtkejdbidomlonaaGreatDoor

namespace Go.Proofs.YtkejdbidomlonaaGreatDoor
open Go.RowKit

abbrev prtC (p : Prt) : List Value := [S p.1, .int .i64 p.2]
abbrev PrtV (p : Prt) : Value := .agg #[S p.1, .int .i64 p.2]
abbrev PrtRow := Row prtC
abbrev entC (e : Ent) : List Value := [S e.1, .int .i64 e.2.1, .bool e.2.2.1, S e.2.2.2]
abbrev EntV (e : Ent) : Value := .agg #[S e.1, .int .i64 e.2.1, .bool e.2.2.1, S e.2.2.2]
abbrev EntRow := Row entC
theorem infoPrt : (Tryz.prog.info? 100).map (fun i => (i.zero, i.size, i.bytes)) = some (some (.agg #[.string ⟨#[]⟩, .int .i64 0]), 2, 24) := by kernel_rfl
theorem infoEnt : (Tryz.prog.info? 80).map (fun i => (i.zero, i.size, i.bytes)) = some (some (.agg #[.string ⟨#[]⟩, .int .i64 0, .bool false, .string ⟨#[]⟩]), 4, 48) := by kernel_rfl
theorem prt_cells {w : World} {b o : Nat} {xs : List Prt} (h : ∀ j x, xs[j]? = some x → ∀ i u, (prtC x)[i]? = some u → w.cell? ⟨b, o + j * (prtC x).length + i, none⟩ = some u) {j : Nat} (hj : j < xs.length) :
    w.cell? ⟨b, o + j * 2, none⟩ = some (S xs[j].1) ∧ w.cell? ⟨b, o + j * 2 + 1, none⟩ = some (.int .i64 xs[j].2) :=
  ⟨h j xs[j] (by simp [hj]) 0 _ rfl, h j xs[j] (by simp [hj]) 1 _ rfl⟩
theorem ent_cells {w : World} {b o : Nat} {xs : List Ent} (h : ∀ j x, xs[j]? = some x → ∀ i u, (entC x)[i]? = some u → w.cell? ⟨b, o + j * (entC x).length + i, none⟩ = some u) {j : Nat} (hj : j < xs.length) :
    w.cell? ⟨b, o + j * 4, none⟩ = some (S xs[j].1) ∧ w.cell? ⟨b, o + j * 4 + 1, none⟩ = some (.int .i64 xs[j].2.1) ∧ w.cell? ⟨b, o + j * 4 + 2, none⟩ = some (.bool xs[j].2.2.1) ∧ w.cell? ⟨b, o + j * 4 + 3, none⟩ = some (S xs[j].2.2.2) :=
  ⟨h j xs[j] (by simp [hj]) 0 _ rfl, h j xs[j] (by simp [hj]) 1 _ rfl, h j xs[j] (by simp [hj]) 2 _ rfl, h j xs[j] (by simp [hj]) 3 _ rfl⟩
theorem prt2_one (x : Prt) : ∀ u ∈ prtC x, u.oneCell' = true := by
  intro u hu; simp at hu; rcases hu with rfl | rfl <;> rfl
theorem ent4_one (x : Ent) : ∀ u ∈ entC x, u.oneCell' = true := by
  intro u hu; simp at hu; rcases hu with rfl | rfl | rfl | rfl <;> rfl
/-- A node as a value, of the rows' values. -/
abbrev NodV (n : Nod) (vp ve : Value) : Value := .agg #[.int .i64 n.kind, S n.data, vp, ve]
structure NodRow (w : World) (n : Nod) (vp ve : Value) : Prop where
  parts : PrtRow w vp n.parts
  ents : EntRow w ve n.ents
theorem NodRow.below {w w' : World} {n : Nod} {vp ve : Value} (h : NodRow w n vp ve) (hb : Below w.heap.size w w') : NodRow w' n vp ve := ⟨h.parts.below hb, h.ents.below hb⟩
/-- A box of two cells. -/
theorem box2 {w : World} {g : Nat} {v u : Value} {t : TypeId} (h : w.heap[g]? = some (.cells #[v, u] t (0, 0))) :
    (w.cell? ⟨g, 0, none⟩ = some v ∧ w.cell? ⟨g, 1, none⟩ = some u) ∧ (w.frozen? ⟨g, 0, none⟩ = false ∧ w.frozen? ⟨g, 1, none⟩ = false) ∧ ((w.cell? ⟨g, 0, none⟩).isSome = true ∧ (w.cell? ⟨g, 1, none⟩).isSome = true) := by
  have h0 := heap_cell h (j := 0) (v := v) rfl
  have h1 := heap_cell h (j := 1) (v := u) rfl
  exact ⟨⟨h0, h1⟩, ⟨heap_free h 0, heap_free h 1⟩, ⟨is_some h0, is_some h1⟩⟩
theorem row_slice {α : Type} {f : α → List Value} {w : World} {v : Value} {l : List α} (h : Row f w v l) : ∃ a c, v = .slice a l.length c := by
  obtain ⟨a, c, h1, _⟩ := h
  exact ⟨a, c, h1⟩
end Go.Proofs.YtkejdbidomlonaaGreatDoor

namespace Go.Proofs.YtkejdbidomlonaaGreatDoor
open Go.RowKit

theorem okByte_true {c : UInt8} (h : okByte c = true) : ((c.toNat : Int) == 0) = false ∧ ((c.toNat : Int) == 47) = false := by
  simp only [okByte, Bool.and_eq_true, Bool.not_eq_true', beq_eq_false_iff_ne, ne_eq] at h
  constructor
  · rw [beq_eq_false_iff_ne]; intro e; exact h.1 (UInt8.toNat_inj.1 (by simpa using e))
  · rw [beq_eq_false_iff_ne]; intro e; exact h.2 (UInt8.toNat_inj.1 (by simp; omega))
theorem okByte_false {c : UInt8} (h : okByte c = false) : c = 0 ∨ c = 47 := by
  simp only [okByte, Bool.and_eq_false_iff, Bool.not_eq_false', beq_iff_eq] at h
  exact h
theorem all_take_succ (l : List UInt8) (k : Nat) (h : k < l.length) : (l.take (k + 1)).all okByte = ((l.take k).all okByte && okByte l[k]) := by
  rw [List.take_succ_eq_append_getElem h, List.all_append]; simp
theorem all_bad {l : List UInt8} {k : Nat} (h : k < l.length) (hb : okByte l[k] = false) : l.all okByte = false := by
  rw [Bool.eq_false_iff]; intro ha; rw [List.all_eq_true] at ha; have := ha _ (List.getElem_mem h); rw [hb] at this; cases this

set_option maxHeartbeats 400000 in
theorem rname_walk (l : List UInt8) (w : World) (hl : l.length ≤ 1100000) :
    Calls Tryz.prog 68 #[S l] w fun e w' => e = .returned (.bool (nameB l)) ∧ w = w' := by
  by_cases hb : (l.isEmpty || decide (31 < l.length) || l == [46] || l == [46, 46]) = true
  · have HB := Lib.hid (show nameB l = false by unfold nameB; rw [hb]; rfl)
    rw [HB.out]
    by_cases h1 : l = []
    · subst h1
      go_enter Tryz.func68, Tryz.ntmps68
      go_wp2
      go_ret
      exact ⟨rfl, rfl⟩
    · have h1' : l.isEmpty = false := by simpa using h1
      clear h1
      by_cases h2 : (31 : Int) < (l.length : Int)
      · go_enter Tryz.func68, Tryz.ntmps68
        go_wp2
        go_ret
        exact ⟨rfl, rfl⟩
      · simp only [h1', Bool.false_or, Bool.or_eq_true, decide_eq_true_eq, beq_iff_eq] at hb
        rcases hb with (hb | hb) | hb
        · omega
        · subst hb
          go_enter Tryz.func68, Tryz.ntmps68
          go_wp2
          go_ret
          exact ⟨rfl, rfl⟩
        · subst hb
          go_enter Tryz.func68, Tryz.ntmps68
          go_wp2
          go_ret
          exact ⟨rfl, rfl⟩
  · have hb' : (l.isEmpty || decide (31 < l.length) || l == [46] || l == [46, 46]) = false := by simpa using hb
    simp only [Bool.or_eq_false_iff] at hb'
    obtain ⟨⟨⟨h1, h2⟩, h3⟩, h4⟩ := hb'
    have HN := Lib.hid (show nameB l = l.all okByte by unfold nameB; rw [h1, h2, h3, h4]; rfl)
    have h2' : (l.length : Int) ≤ 31 := by simp at h2; omega
    clear hb h2
    go_enter Tryz.func68, Tryz.ntmps68
    go_wp2
    go_loop [3] (fun i => ∃ k : Nat, k ≤ l.length ∧ i = .int .i64 k ∧ (l.take k).all okByte = true) (fun i => l.length - (intOf i).toNat)
    case atStart => exact ⟨0, Nat.zero_le _, rfl, rfl⟩
    case round =>
      obtain ⟨k, hk, rfl, ha⟩ := hrel
      have HA := Lib.hid ha
      clear ha
      by_cases hlt : k < l.length
      · have HS := Lib.hid (all_take_succ l k hlt)
        cases hok : okByte l[k]
        · have HF := Lib.hid (all_bad hlt hok)
          have hc := okByte_false hok
          clear hok
          rcases hc with hc | hc
          · have hc' : (({ data := l.toArray } : ByteArray)[k]'hlt).toNat = 0 := by show (l[k]).toNat = 0; rw [hc]; rfl
            clear hc
            go_wp2
            go_ret
            exact ⟨ret_bool (by rw [HN.out, HF.out]), rfl⟩
          · have hc' : (({ data := l.toArray } : ByteArray)[k]'hlt).toNat = 47 := by show (l[k]).toNat = 47; rw [hc]; rfl
            clear hc
            go_wp2
            go_ret
            exact ⟨ret_bool (by rw [HN.out, HF.out]), rfl⟩
        · have hc0 : (((({ data := l.toArray } : ByteArray)[k]'hlt).toNat : Int) == 0) = false := (okByte_true hok).1
          have hc1 : (((({ data := l.toArray } : ByteArray)[k]'hlt).toNat : Int) == 47) = false := (okByte_true hok).2
          have HO := Lib.hid hok
          clear hok
          go_wp2
          go_round
          case rel => exact ⟨k + 1, by omega, by go_num, by rw [HS.out, HA.out, HO.out]; rfl⟩
          case measure => simp [intOf]; omega
      · go_wp2
        go_ret
        exact ⟨ret_bool (by rw [HN.out]; have := HA.out; rw [List.take_of_length_le (by omega)] at this; exact this.symm), rfl⟩
end Go.Proofs.YtkejdbidomlonaaGreatDoor
