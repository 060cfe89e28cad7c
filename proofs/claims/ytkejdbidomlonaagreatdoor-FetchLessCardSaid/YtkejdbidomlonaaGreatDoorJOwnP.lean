/- Rows of the call's own, kept and looked at; blocks behind an alloc. fetch's load of a node; the number of a fault. fetch's file. -/
import Derived.Test.YtkejdbidomlonaaGreatDoorJNodeFit
import Derived.Test.YtkejdbidomlonaaGreatDoorJItB
import Derived.Test.YtkejdbidomlonaaGreatDoorJObjAt
import Derived.Test.YtkejdbidomlonaaGreatDoorJAs11
import Derived.Test.YtkejdbidomlonaaGreatDoorPSha5
import Derived.Test.YtkejdbidomlonaaGreatDoorJKeyNP
import Derived.Test.YtkejdbidomlonaaGreatDoorJNodesL
import Derived.Test.YtkejdbidomlonaaGreatDoorJR11b
namespace Go.Proofs.YtkejdbidomlonaaGreatDoor
open Go.RowKit

theorem own_keep {w w' : World} {B e K n : Nat} {v : Value} {xs : List Value} (h : w.ownsRow B e K v n xs) (hk : ∀ g, B ≤ g → g < w.heap.size → w'.heap[g]? = w.heap[g]?) : w'.ownsRow B e K v n xs := by
  have hlt := h.lt
  obtain ⟨h1, h2⟩ := h
  refine ⟨h1, ?_⟩
  rcases h2 with h2 | ⟨g, cap, cur, rfl, hb, hg, h3⟩
  · exact .inl h2
  · exact .inr ⟨g, cap, cur, rfl, hb, (hk g hb (hlt g rfl).2).trans hg, h3⟩
theorem own_slice {w : World} {B e K n : Nat} {v : Value} {xs : List Value} (h : w.ownsRow B e K v n xs) : ∃ a m c, v = .slice a m c := by
  rcases h.2 with ⟨rfl, _⟩ | ⟨g, cap, cur, rfl, _⟩
  · exact ⟨_, _, _, rfl⟩
  · exact ⟨_, _, _, rfl⟩
theorem own_set {w : World} {B e K n b o : Nat} {v u : Value} {xs : List Value} (h : w.ownsRow B e K v n xs) (hb : b < B) : (w.setCell ⟨b, o, none⟩ u).ownsRow B e K v n xs :=
  own_keep h (fun g h1 _ => Below.heap_setCell _ _ _ _ (by show g ≠ b; omega))
theorem below_setC {B : Nat} {w w' : World} (h : Below B w w') {g : Nat} (hg : B ≤ g) (o : Nat) (u : Value) : Below B w (w'.setCell ⟨g, o, none⟩ u) := h.setCell (p := ⟨g, o, none⟩) hg u
theorem heap_old {w : World} {o x : Obj} {k : Nat} (h : w.heap[k]? = some x) : (w.alloc o).heap[k]? = some x := (Below.heap_alloc w o k (heap_lt h)).trans h
theorem heap_new' {w : World} {k : Nat} (h : k = w.heap.size) (o : Obj) : (w.alloc o).heap[k]? = some o := by subst h; exact heap_alloc_new w o
end Go.Proofs.YtkejdbidomlonaaGreatDoor

namespace Go.Proofs.YtkejdbidomlonaaGreatDoor
open Go.RowKit

def LoadPost (o : List Snp) (key : List UInt8) (kind : Int) (path : List UInt8) (w : World) (e : Ending) (w' : World) : Prop :=
  ∃ (n : Nod) (vp ve ev : Value), e = .returned (.tuple #[NodV n vp ve, ev]) ∧ NodRow w' n vp ve ∧ Hid ((∀ j, vp.ownBlock = some j → w.heap.size ≤ j) ∧ ∀ j, ve.ownBlock = some j → w.heap.size ≤ j) ∧ Below w.heap.size w w' ∧
    ((loadC o key kind = 0 ∧ ev = .nilIface ∧ n = (readN (rootOf (findR o key))).1) ∨ (loadC o key kind ≠ 0 ∧ ∃ g, ev = .iface 114 (.pointer (some ⟨g, 0, none⟩)) ∧ w'.heap[g]? = some (.cells #[.int .i64 (loadC o key kind), S path] 116 (0, 0))))

set_option maxHeartbeats 4000000 in
set_option maxRecDepth 100000 in
theorem load_walk (b : Nat) (la : Option Addr) (lc : Nat) (ov sv : Value) (o : List Snp) (key : List UInt8) (kind : Int) (path : List UInt8) (w : World)
    (hf : w.heap[b]? = some (.cells #[.slice la o.length lc, ov, sv] 55 (0, 0))) (ho : SnpRow w (.slice la o.length lc) o) (hT : ErrT w) (hup : upS (namesR o)) (hol : o.length ≤ 1100000) (hraw : ∀ x ∈ o, x.2.length ≤ 1000000) :
    Calls Tryz.prog 44 #[.pointer (some ⟨b, 0, none⟩), S key, .int .i64 kind, S path] w (LoadPost o key kind path w) := by
  obtain ⟨w1, hw1, hb1, hz1⟩ : ∃ w1, w1 = w.alloc (.cells #[.int .i64 0, .string ⟨#[]⟩, .slice none 0 0, .slice none 0 0] 77) ∧ Below w.heap.size w w1 ∧ w1.heap[w.heap.size]? = some (.cells #[.int .i64 0, .string ⟨#[]⟩, .slice none 0 0, .slice none 0 0] 77 (0, 0)) :=
    ⟨_, rfl, (Below.refl _ _).alloc (Nat.le_refl _) _, heap_alloc_new _ _⟩
  have c0 := heap_cell ((hb1.block _ (heap_lt hf)).trans hf) (j := 0) (v := .slice la o.length lc) rfl
  have CG := pget_walk (.slice la o.length lc) o key w1 (ho.below hb1) hol hup
  have HT1 := Lib.hid (hT.below hb1)
  have hrl : (rootOf (findR o key)).length ≤ 1000000 := by
    cases hf : findR o key with
    | none => simp [rootOf]
    | some r =>
      unfold findR at hf
      rw [Option.map_eq_some_iff] at hf
      obtain ⟨x, hx, rfl⟩ := hf
      exact hraw x (List.mem_of_find?_eq_some hx)
  have HLC := Lib.hid (show loadC o key kind = if (findR o key).isSome = false then 5 else if shaF (rootOf (findR o key)) ≠ key then 11 else if (readN (rootOf (findR o key))).2 ≠ 0 then 2 else if (readN (rootOf (findR o key))).1.kind ≠ kind then 10 else 0 from rfl)
  have HEND := Lib.hid (fun (e : Ending) (w' : World) (h : LoadPost o key kind path w e w') => h)
  unfold LoadPost
  generalize loadC o key kind = lcd at *
  generalize rootOf (findR o key) = raw at *
  generalize (findR o key).isSome = is at *
  clear hf ho hT hraw HEND
  go_enter Tryz.func44, Tryz.ntmps44
  go_upto_region 1 with fail
  rw [← hw1]
  clear hw1
  go_wp2_with fail
  refine CG.mono ?_
  rintro e w2 ⟨rfl, hb2⟩
  have hz2 := (hb2.block _ (heap_lt hz1)).trans hz1
  have HB2 := Lib.hid (below_chain hb1 hb2 hb1.size)
  have HT2 := Lib.hid (HT1.out.below hb2)
  clear CG hb1 hb2 hz1 c0
  cases is with
  | false =>
    have HC := Lib.hid (show lcd = 5 from HLC.out.trans (if_pos rfl))
    obtain ⟨hza, HGA⟩ : (w2.alloc (.cells #[.int .i64 5, S path] 116)).heap[w.heap.size]? = some (.cells #[.int .i64 0, .string ⟨#[]⟩, .slice none 0 0, .slice none 0 0] 77 (0, 0)) ∧ Hid ((w2.alloc (.cells #[.int .i64 5, S path] 116)).heap[w2.heap.size]? = some (.cells #[.int .i64 5, S path] 116 (0, 0))) := ⟨(Below.heap_alloc _ _ _ (heap_lt hz2)).trans hz2, Lib.hid (heap_alloc_new _ _)⟩
    have HZL := Lib.hid (heap_lt hz2)
    obtain ⟨⟨c0, c1, c2, c3⟩, ⟨f0, f1, f2, f3⟩, ⟨q0, q1, q2, q3⟩⟩ := box4 hza
    obtain ⟨w9, hw9, hz9, HG9, HB9⟩ : ∃ w9, w9 = ((((w2.alloc (.cells #[.int .i64 5, S path] 116)).setCell ⟨w.heap.size, 0, none⟩ (.int .i64 0)).setCell ⟨w.heap.size, 1, none⟩ (.string ⟨#[]⟩)).setCell ⟨w.heap.size, 2, none⟩ (.slice none 0 0)).setCell ⟨w.heap.size, 3, none⟩ (.slice none 0 0) ∧ w9.heap[w.heap.size]? = some (.cells #[.int .i64 0, .string ⟨#[]⟩, .slice none 0 0, .slice none 0 0] 77 (0, 0)) ∧ Hid (w9.heap[w2.heap.size]? = some (.cells #[.int .i64 5, S path] 116 (0, 0))) ∧ Hid (Below w.heap.size w w9) := by
      have hne : w2.heap.size ≠ w.heap.size := by have := HZL.out; omega
      exact ⟨_, rfl, heap_set_cell (heap_set_cell (heap_set_cell (heap_set_cell hza _) _) _) _, Lib.hid ((Below.heap_setCell _ _ _ _ hne).trans ((Below.heap_setCell _ _ _ _ hne).trans ((Below.heap_setCell _ _ _ _ hne).trans ((Below.heap_setCell _ _ _ _ hne).trans HGA.out)))),
        Lib.hid (below_setT (below_setT (below_setT (below_setT (HB2.out.alloc HB2.out.size _) (Nat.le_refl _) _ _) (Nat.le_refl _) _ _) (Nat.le_refl _) _ _) (Nat.le_refl _) _ _)⟩
    clear hza hz2
    go_wp2
    rw [← hw9]
    obtain ⟨⟨x0, x1, x2, x3⟩, -, -⟩ := box4 hz9
    refine bodyPost_ret (v := .tuple #[NodV zNod (.slice none 0 0) (.slice none 0 0), .iface 114 (.pointer (some ⟨w2.heap.size, 0, none⟩))]) (by simp [results, Tryz.results44, go_sem, x0, x1, x2, x3, zNod]) rfl ?_
    exact ⟨_, _, _, _, rfl, ⟨Row.nil _ _, Row.nil _ _⟩, Lib.hid ⟨by simp [Value.ownBlock], by simp [Value.ownBlock]⟩, HB9.out, .inr ⟨by rw [HC.out]; decide, _, rfl, by rw [HC.out]; exact HG9.out⟩⟩
  | true =>
  have CS := psha_walk raw w2 (by omega)
  obtain ⟨sm, hsm⟩ : ∃ sm, shaF raw = sm := ⟨_, rfl⟩
  rw [hsm] at CS HLC
  clear hsm
  go_wp2_with fail
  refine CS.mono ?_
  rintro e w3 ⟨rfl, hb3⟩
  have hz3 := (hb3.block _ (heap_lt hz2)).trans hz2
  have HB3 := Lib.hid (below_chain HB2.out hb3 HB2.out.size)
  have HT3 := Lib.hid (HT2.out.below hb3)
  clear CS hb3 hz2
  by_cases hk : sm = key
  case neg =>
    have hq : (sm != key) = true := by rw [bne_iff_ne]; exact hk
    have hq0 : (sm == key) = false := by rw [beq_eq_false_iff_ne]; exact hk
    have HC := Lib.hid (show lcd = 11 from HLC.out.trans ((if_neg (by simp)).trans (if_pos hk)))
    clear hk
    obtain ⟨hza, HGA⟩ : (w3.alloc (.cells #[.int .i64 11, S path] 116)).heap[w.heap.size]? = some (.cells #[.int .i64 0, .string ⟨#[]⟩, .slice none 0 0, .slice none 0 0] 77 (0, 0)) ∧ Hid ((w3.alloc (.cells #[.int .i64 11, S path] 116)).heap[w3.heap.size]? = some (.cells #[.int .i64 11, S path] 116 (0, 0))) := ⟨(Below.heap_alloc _ _ _ (heap_lt hz3)).trans hz3, Lib.hid (heap_alloc_new _ _)⟩
    have HZL := Lib.hid (heap_lt hz3)
    obtain ⟨⟨c0, c1, c2, c3⟩, ⟨f0, f1, f2, f3⟩, ⟨q0, q1, q2, q3⟩⟩ := box4 hza
    obtain ⟨w9, hw9, hz9, HG9, HB9⟩ : ∃ w9, w9 = ((((w3.alloc (.cells #[.int .i64 11, S path] 116)).setCell ⟨w.heap.size, 0, none⟩ (.int .i64 0)).setCell ⟨w.heap.size, 1, none⟩ (.string ⟨#[]⟩)).setCell ⟨w.heap.size, 2, none⟩ (.slice none 0 0)).setCell ⟨w.heap.size, 3, none⟩ (.slice none 0 0) ∧ w9.heap[w.heap.size]? = some (.cells #[.int .i64 0, .string ⟨#[]⟩, .slice none 0 0, .slice none 0 0] 77 (0, 0)) ∧ Hid (w9.heap[w3.heap.size]? = some (.cells #[.int .i64 11, S path] 116 (0, 0))) ∧ Hid (Below w.heap.size w w9) := by
      have hne : w3.heap.size ≠ w.heap.size := by have := HZL.out; omega
      exact ⟨_, rfl, heap_set_cell (heap_set_cell (heap_set_cell (heap_set_cell hza _) _) _) _, Lib.hid ((Below.heap_setCell _ _ _ _ hne).trans ((Below.heap_setCell _ _ _ _ hne).trans ((Below.heap_setCell _ _ _ _ hne).trans ((Below.heap_setCell _ _ _ _ hne).trans HGA.out)))),
        Lib.hid (below_setT (below_setT (below_setT (below_setT (HB3.out.alloc HB3.out.size _) (Nat.le_refl _) _ _) (Nat.le_refl _) _ _) (Nat.le_refl _) _ _) (Nat.le_refl _) _ _)⟩
    clear hza hz3
    go_wp2
    rw [← hw9]
    obtain ⟨⟨x0, x1, x2, x3⟩, -, -⟩ := box4 hz9
    refine bodyPost_ret (v := .tuple #[NodV zNod (.slice none 0 0) (.slice none 0 0), .iface 114 (.pointer (some ⟨w3.heap.size, 0, none⟩))]) (by simp [results, Tryz.results44, go_sem, x0, x1, x2, x3, zNod]) rfl ?_
    exact ⟨_, _, _, _, rfl, ⟨Row.nil _ _, Row.nil _ _⟩, Lib.hid ⟨by simp [Value.ownBlock], by simp [Value.ownBlock]⟩, HB9.out, .inr ⟨by rw [HC.out]; decide, _, rfl, by rw [HC.out]; exact HG9.out⟩⟩
  have HSM := Lib.hid hk
  have hq : (sm != key) = false := by rw [bne_eq_false_iff_eq]; exact hk
  have hq0 : (sm == key) = true := by rw [beq_iff_eq]; exact hk
  have CR := pread2_walk raw w3 HT3.out hrl
  clear hk
  go_wp2_with fail
  refine CR.mono ?_
  rintro e w4 ⟨vp, ve, rfl, hnr, hvb, hb4⟩
  obtain ⟨pa, pc, rfl⟩ := row_slice hnr.parts
  obtain ⟨ua, uc, rfl⟩ := row_slice hnr.ents
  obtain ⟨w5, hw5, hb45, hn5⟩ : ∃ w5, w5 = w4.alloc (.cells #[.int .i64 (readN raw).1.kind, S (readN raw).1.data, .slice pa (readN raw).1.parts.length pc, .slice ua (readN raw).1.ents.length uc] 77) ∧ Below w4.heap.size w4 w5 ∧ w5.heap[w4.heap.size]? = some (.cells #[.int .i64 (readN raw).1.kind, S (readN raw).1.data, .slice pa (readN raw).1.parts.length pc, .slice ua (readN raw).1.ents.length uc] 77 (0, 0)) :=
    ⟨_, rfl, (Below.refl _ _).alloc (Nat.le_refl _) _, heap_alloc_new _ _⟩
  have hz5 := (hb45.block _ (by have := heap_lt hz3; have := hb4.size; omega)).trans ((hb4.block _ (heap_lt hz3)).trans hz3)
  have HB5 := Lib.hid (below_chain (below_chain HB3.out hb4 HB3.out.size) hb45 (by have := HB3.out.size; have := hb4.size; omega))
  have HN5 := Lib.hid (hnr.below hb45)
  have HSZ := Lib.hid (show w.heap.size < w4.heap.size by have := heap_lt hz3; have := hb4.size; omega)
  obtain ⟨er, her⟩ : ∃ er, (readN raw).2 = er := ⟨_, rfl⟩
  obtain ⟨n, hn⟩ : ∃ n, (readN raw).1 = n := ⟨_, rfl⟩
  rw [her, hn] at HLC
  rw [hn] at hw5 hn5 HN5
  have HNE := Lib.hid hn
  rw [hn] at hvb
  have hvz : ∀ j, (Value.slice pa n.parts.length pc).ownBlock = some j → w.heap.size ≠ j := fun j hj => by have := hvb.1 j hj; have := heap_lt hz3; omega
  have hvz2 : ∀ j, (Value.slice ua n.ents.length uc).ownBlock = some j → w.heap.size ≠ j := fun j hj => by have := hvb.2 j hj; have := heap_lt hz3; omega
  have HVZ := Lib.hid (And.intro hvz hvz2)
  have HVB := Lib.hid (show (∀ j, (Value.slice pa n.parts.length pc).ownBlock = some j → w.heap.size ≤ j) ∧ ∀ j, (Value.slice ua n.ents.length uc).ownBlock = some j → w.heap.size ≤ j from ⟨fun j hj => by have := hvb.1 j hj; have := HB3.out.size; omega, fun j hj => by have := hvb.2 j hj; have := HB3.out.size; omega⟩)
  rw [hn, her]
  clear CR hb4 hb45 hnr hz3 her hn hvb hvz hvz2
  go_upto_region 7 with fail
  rw [← hw5]
  clear hw5
  by_cases hr : er = 0
  case neg =>
    have hq2 : (er != 0) = true := by rw [bne_iff_ne]; exact hr
    have HC := Lib.hid (show lcd = 2 from HLC.out.trans ((if_neg (by simp)).trans ((if_neg (by simp [HSM.out])).trans (if_pos hr))))
    clear hr hn5
    obtain ⟨hza, HGA⟩ : (w5.alloc (.cells #[.int .i64 2, S path] 116)).heap[w.heap.size]? = some (.cells #[.int .i64 0, .string ⟨#[]⟩, .slice none 0 0, .slice none 0 0] 77 (0, 0)) ∧ Hid ((w5.alloc (.cells #[.int .i64 2, S path] 116)).heap[w5.heap.size]? = some (.cells #[.int .i64 2, S path] 116 (0, 0))) := ⟨(Below.heap_alloc _ _ _ (heap_lt hz5)).trans hz5, Lib.hid (heap_alloc_new _ _)⟩
    have HZL := Lib.hid (heap_lt hz5)
    obtain ⟨⟨c0, c1, c2, c3⟩, ⟨f0, f1, f2, f3⟩, ⟨q0, q1, q2, q3⟩⟩ := box4 hza
    obtain ⟨w9, hw9, hz9, HG9, HB9⟩ : ∃ w9, w9 = ((((w5.alloc (.cells #[.int .i64 2, S path] 116)).setCell ⟨w.heap.size, 0, none⟩ (.int .i64 0)).setCell ⟨w.heap.size, 1, none⟩ (.string ⟨#[]⟩)).setCell ⟨w.heap.size, 2, none⟩ (.slice none 0 0)).setCell ⟨w.heap.size, 3, none⟩ (.slice none 0 0) ∧ w9.heap[w.heap.size]? = some (.cells #[.int .i64 0, .string ⟨#[]⟩, .slice none 0 0, .slice none 0 0] 77 (0, 0)) ∧ Hid (w9.heap[w5.heap.size]? = some (.cells #[.int .i64 2, S path] 116 (0, 0))) ∧ Hid (Below w.heap.size w w9) := by
      have hne : w5.heap.size ≠ w.heap.size := by have := HZL.out; omega
      exact ⟨_, rfl, heap_set_cell (heap_set_cell (heap_set_cell (heap_set_cell hza _) _) _) _, Lib.hid ((Below.heap_setCell _ _ _ _ hne).trans ((Below.heap_setCell _ _ _ _ hne).trans ((Below.heap_setCell _ _ _ _ hne).trans ((Below.heap_setCell _ _ _ _ hne).trans HGA.out)))),
        Lib.hid (below_setT (below_setT (below_setT (below_setT (HB5.out.alloc HB5.out.size _) (Nat.le_refl _) _ _) (Nat.le_refl _) _ _) (Nat.le_refl _) _ _) (Nat.le_refl _) _ _)⟩
    clear hza hz5
    go_wp2
    rw [← hw9]
    obtain ⟨⟨x0, x1, x2, x3⟩, -, -⟩ := box4 hz9
    refine bodyPost_ret (v := .tuple #[NodV zNod (.slice none 0 0) (.slice none 0 0), .iface 114 (.pointer (some ⟨w5.heap.size, 0, none⟩))]) (by simp [results, Tryz.results44, go_sem, x0, x1, x2, x3, zNod]) rfl ?_
    exact ⟨_, _, _, _, rfl, ⟨Row.nil _ _, Row.nil _ _⟩, Lib.hid ⟨by simp [Value.ownBlock], by simp [Value.ownBlock]⟩, HB9.out, .inr ⟨by rw [HC.out]; decide, _, rfl, by rw [HC.out]; exact HG9.out⟩⟩
  subst hr
  obtain ⟨⟨n0, n1, n2, n3⟩, -, -⟩ := box4 hn5
  by_cases hkd : n.kind = kind
  case neg =>
    have hq3 : (n.kind != kind) = true := by rw [bne_iff_ne]; exact hkd
    have HC := Lib.hid (show lcd = 10 from HLC.out.trans ((if_neg (by simp)).trans ((if_neg (by simp [HSM.out])).trans ((if_neg (by simp)).trans (if_pos hkd)))))
    clear hkd hn5
    obtain ⟨hza, HGA⟩ : (w5.alloc (.cells #[.int .i64 10, S path] 116)).heap[w.heap.size]? = some (.cells #[.int .i64 0, .string ⟨#[]⟩, .slice none 0 0, .slice none 0 0] 77 (0, 0)) ∧ Hid ((w5.alloc (.cells #[.int .i64 10, S path] 116)).heap[w5.heap.size]? = some (.cells #[.int .i64 10, S path] 116 (0, 0))) := ⟨(Below.heap_alloc _ _ _ (heap_lt hz5)).trans hz5, Lib.hid (heap_alloc_new _ _)⟩
    have HZL := Lib.hid (heap_lt hz5)
    obtain ⟨⟨c0, c1, c2, c3⟩, ⟨f0, f1, f2, f3⟩, ⟨q0, q1, q2, q3⟩⟩ := box4 hza
    obtain ⟨w9, hw9, hz9, HG9, HB9⟩ : ∃ w9, w9 = ((((w5.alloc (.cells #[.int .i64 10, S path] 116)).setCell ⟨w.heap.size, 0, none⟩ (.int .i64 0)).setCell ⟨w.heap.size, 1, none⟩ (.string ⟨#[]⟩)).setCell ⟨w.heap.size, 2, none⟩ (.slice none 0 0)).setCell ⟨w.heap.size, 3, none⟩ (.slice none 0 0) ∧ w9.heap[w.heap.size]? = some (.cells #[.int .i64 0, .string ⟨#[]⟩, .slice none 0 0, .slice none 0 0] 77 (0, 0)) ∧ Hid (w9.heap[w5.heap.size]? = some (.cells #[.int .i64 10, S path] 116 (0, 0))) ∧ Hid (Below w.heap.size w w9) := by
      have hne : w5.heap.size ≠ w.heap.size := by have := HZL.out; omega
      exact ⟨_, rfl, heap_set_cell (heap_set_cell (heap_set_cell (heap_set_cell hza _) _) _) _, Lib.hid ((Below.heap_setCell _ _ _ _ hne).trans ((Below.heap_setCell _ _ _ _ hne).trans ((Below.heap_setCell _ _ _ _ hne).trans ((Below.heap_setCell _ _ _ _ hne).trans HGA.out)))),
        Lib.hid (below_setT (below_setT (below_setT (below_setT (HB5.out.alloc HB5.out.size _) (Nat.le_refl _) _ _) (Nat.le_refl _) _ _) (Nat.le_refl _) _ _) (Nat.le_refl _) _ _)⟩
    clear hza hz5
    go_wp2
    rw [← hw9]
    obtain ⟨⟨x0, x1, x2, x3⟩, -, -⟩ := box4 hz9
    refine bodyPost_ret (v := .tuple #[NodV zNod (.slice none 0 0) (.slice none 0 0), .iface 114 (.pointer (some ⟨w5.heap.size, 0, none⟩))]) (by simp [results, Tryz.results44, go_sem, x0, x1, x2, x3, zNod]) rfl ?_
    exact ⟨_, _, _, _, rfl, ⟨Row.nil _ _, Row.nil _ _⟩, Lib.hid ⟨by simp [Value.ownBlock], by simp [Value.ownBlock]⟩, HB9.out, .inr ⟨by rw [HC.out]; decide, _, rfl, by rw [HC.out]; exact HG9.out⟩⟩
  have hq3 : (n.kind != kind) = false := by rw [bne_eq_false_iff_eq]; exact hkd
  have HC := Lib.hid (show lcd = 0 from HLC.out.trans ((if_neg (by simp)).trans ((if_neg (by simp [HSM.out])).trans ((if_neg (by simp)).trans (if_neg (by simp [hkd]))))))
  clear hkd hn5
  obtain ⟨⟨c0, c1, c2, c3⟩, ⟨f0, f1, f2, f3⟩, ⟨q0, q1, q2, q3⟩⟩ := box4 hz5
  obtain ⟨w9, hw9, hz9, HB9, HN9⟩ : ∃ w9, w9 = (((w5.setCell ⟨w.heap.size, 0, none⟩ (.int .i64 n.kind)).setCell ⟨w.heap.size, 1, none⟩ (S n.data)).setCell ⟨w.heap.size, 2, none⟩ (.slice pa n.parts.length pc)).setCell ⟨w.heap.size, 3, none⟩ (.slice ua n.ents.length uc) ∧ w9.heap[w.heap.size]? = some (.cells #[.int .i64 n.kind, S n.data, .slice pa n.parts.length pc, .slice ua n.ents.length uc] 77 (0, 0)) ∧ Hid (Below w.heap.size w w9) ∧ Hid (NodRow w9 n (.slice pa n.parts.length pc) (.slice ua n.ents.length uc)) :=
    ⟨_, rfl, heap_set_cell (heap_set_cell (heap_set_cell (heap_set_cell hz5 _) _) _) _, Lib.hid (below_setT (below_setT (below_setT (below_setT HB5.out (Nat.le_refl _) _ _) (Nat.le_refl _) _ _) (Nat.le_refl _) _ _) (Nat.le_refl _) _ _),
      Lib.hid (nod_other (nod_other (nod_other (nod_other HN5.out HVZ.out.1 HVZ.out.2 _ _) HVZ.out.1 HVZ.out.2 _ _) HVZ.out.1 HVZ.out.2 _ _) HVZ.out.1 HVZ.out.2 _ _)⟩
  clear hz5
  go_wp2
  rw [← hw9]
  obtain ⟨⟨x0, x1, x2, x3⟩, -, -⟩ := box4 hz9
  refine bodyPost_ret (v := .tuple #[NodV n (.slice pa n.parts.length pc) (.slice ua n.ents.length uc), .nilIface]) (by simp [results, Tryz.results44, go_sem, x0, x1, x2, x3]) rfl ?_
  exact ⟨n, _, _, _, rfl, HN9.out, HVB, HB9.out, .inl ⟨HC.out, rfl, HNE.out.symm⟩⟩
end Go.Proofs.YtkejdbidomlonaaGreatDoor

namespace Go.Proofs.YtkejdbidomlonaaGreatDoor
open Go.RowKit

/-- Between two parts of a file. -/
def PartI (W0 : World) (b bb : Nat) (la : Option Addr) (lc : Nat) (o : List Snp) (ps : List Prt) (st : StC) (ov : Value) (w : World) (i : Value) (wr : World) : Prop :=
  ∃ (q : Nat) (acc : List UInt8) (s : Nat), q ≤ ps.length ∧ i = .int .i64 q ∧ Hid (FSt W0.heap.size b wr la lc o ov (st.1, s)) ∧ Hid (FGot b bb w wr ov ov) ∧ Hid (partsC o ps [] st.2 = partsC o (ps.drop q) acc s) ∧ Hid (s ≤ 65536 ∧ acc.length ≤ s) ∧ Hid (IsBld bb bb acc wr)
theorem partsC_cons (o : List Snp) (p : Prt) (ps : List Prt) (acc : List UInt8) (s : Nat) : partsC o (p :: ps) acc s = if loadC o p.1 1 ≠ 0 then ([], s, loadC o p.1 1)
    else if ((nodeC o p.1).data.length : Int) ≠ p.2 ∨ 65536 < s + (nodeC o p.1).data.length then ([], s + (nodeC o p.1).data.length, 4)
    else partsC o ps (acc ++ (nodeC o p.1).data) (s + (nodeC o p.1).data.length) := rfl

set_option maxHeartbeats 8000000 in
set_option maxRecDepth 100000 in
theorem pfile13_walk (W0 : World) (b : Nat) (la : Option Addr) (lc : Nat) (o : List Snp) (ho : SnpRow W0 (.slice la o.length lc) o) (hT : ErrT W0) (hup : upS (namesR o)) (hol : o.length ≤ 1100000) (hraw : ∀ x ∈ o, x.2.length ≤ 1000000)
    (key path : List UInt8) (st : StC) (ov : Value) (w : World) (hbw : Below W0.heap.size W0 w) (hst : FSt W0.heap.size b w la lc o ov st) (h65 : st.2 ≤ 65536) :
    Calls Tryz.prog 70 #[.pointer (some ⟨b, 0, none⟩), S key, S path] w fun e w' => ∃ ev, e = .returned (.tuple #[S (fileC o key st.2).1, ev]) ∧ FSt W0.heap.size b w' la lc o ov (st.1, (fileC o key st.2).2.1) ∧ FGot b w.heap.size w w' ov ov ∧ ErrC (fileC o key st.2).2.2 ev w' := by
  have CL := fun k kind ov W (h : FSt W0.heap.size b W la lc o ov st) (hb : Below W0.heap.size W0 W) => load_walk b la lc ov (.int .i64 (st.2 : Nat)) o k kind path W h.box (ho.below hb) (hT.below hb) hup hol hraw
  have CLL := Lib.hid (fun k kind s W (h : FSt W0.heap.size b W la lc o ov (st.1, s)) (hb : Below W0.heap.size W0 W) => load_walk b la lc ov (.int .i64 (s : Nat)) o k kind path W h.box (ho.below hb) (hT.below hb) hup hol hraw)
  have C0 := CL key 2 ov w hst hbw
  have HST := Lib.hid hst
  have HBW := Lib.hid hbw
  have HFC := Lib.hid (show fileC o key st.2 = if loadC o key 2 ≠ 0 then ([], st.2, loadC o key 2) else partsC o (nodeC o key).parts [] st.2 from rfl)
  have HOK := Lib.hid (fun (h : loadC o key 2 = 0) => loadC_ok h)
  have HMEM := Lib.hid (fun (k : List UInt8) (kind : Int) h => loadC_mem (o := o) (key := k) (kind := kind) h)
  have HND := Lib.hid (show nodeC o key = (readN (rootOf (findR o key))).1 from rfl)
  have HM0 := Lib.hid (HMEM.out key 2)
  clear ho hT hraw hst hbw CL
  unfold LoadPost at C0
  obtain ⟨fc, hfc⟩ : ∃ fc, fileC o key st.2 = fc := ⟨_, rfl⟩
  rw [hfc] at HFC ⊢
  generalize loadC o key 2 = lcd at *
  generalize (readN (rootOf (findR o key))).1 = nd0 at *
  clear hfc
  go_enter Tryz.func70, Tryz.ntmps70
  go_wp2_with fail
  refine C0.mono ?_
  rintro e w1 ⟨nd, vp, ve, ev, rfl, hnr, hvb, hb1, hev⟩
  obtain ⟨pa, pc, rfl⟩ := row_slice hnr.parts
  obtain ⟨ua, uc, rfl⟩ := row_slice hnr.ents
  obtain ⟨w2, hw2, HB2, hn2⟩ : ∃ w2, w2 = w1.alloc (.cells #[.int .i64 nd.kind, S nd.data, .slice pa nd.parts.length pc, .slice ua nd.ents.length uc] 77) ∧ Hid (Below w.heap.size w w2) ∧ w2.heap[w1.heap.size]? = some (.cells #[.int .i64 nd.kind, S nd.data, .slice pa nd.parts.length pc, .slice ua nd.ents.length uc] 77 (0, 0)) :=
    ⟨_, rfl, Lib.hid (hb1.alloc hb1.size _), heap_alloc_new _ _⟩
  have HST2 := Lib.hid (HST.out.below HB2.out)
  have HGW := Lib.hid ((FGot.start b w.heap.size w ov).below HB2.out)
  rcases hev with ⟨hl0, rfl, hne⟩ | ⟨hl0, g, rfl, hg⟩
  · obtain ⟨hfn, hkd, -⟩ := HOK.out hl0
    rw [HND.out, ← hne] at hfn hkd
    have HFD := Lib.hid (show FitFile nd.parts by
      rcases hfn with h | h | h
      · rw [h.1] at hkd; cases hkd
      · exact h.2.2.2
      · rw [h.1] at hkd; cases hkd)
    have HRES := Lib.hid (show fc = partsC o nd.parts [] st.2 by rw [HFC.out, if_neg (by rw [hl0]; simp), HND.out, hne])
    have HVB := Lib.hid hvb.out.1
    have hpl := HFD.out.len
    obtain ⟨w3, hw3, HB3, HBLD, hz3, hs3⟩ : ∃ w3, w3 = w2.alloc (.cells #[.pointer none, .slice none 0 0] 154) ∧ Hid (Below w2.heap.size w2 w3) ∧ Hid (IsBld w2.heap.size w2.heap.size [] w3) ∧ w3.heap[w1.heap.size]? = some (.cells #[.int .i64 nd.kind, S nd.data, .slice pa nd.parts.length pc, .slice ua nd.ents.length uc] 77 (0, 0)) ∧ w3.heap.size = w2.heap.size + 1 :=
      ⟨_, rfl, Lib.hid ((Below.refl _ _).alloc (Nat.le_refl _) _), Lib.hid (Lib.fresh_isBuilder 154 5 w2), (Below.heap_alloc _ _ _ (heap_lt hn2)).trans hn2, by simp⟩
    have HNR2 := Lib.hid (hnr.parts.below (show Below w1.heap.size w1 w2 by rw [hw2]; exact (Below.refl _ _).alloc (Nat.le_refl _) _))
    have HST3 := Lib.hid (HST2.out.below HB3.out)
    obtain ⟨⟨z0, z1, z2, z3⟩, -, -⟩ := box4 hz3
    obtain ⟨_, _, hve, -, -, hx⟩ := HNR2.out
    cases hve
    have HX := Lib.hid hx
    have HBL := Lib.hid (heap_lt HST.out.box)
    clear C0 hnr hb1 hl0 hne hn2 hfn hkd hvb hx hz3
    go_upto_region 2 with fail
    rw [← hw2]
    clear hw2
    go_upto_region 5 with fail
    rw [← hw3]
    clear hw3
    go_wp2
    go_loopw [28] (fun i wr => PartI W0 b w2.heap.size la lc o nd.parts st ov w3 i wr) (fun i _ => nd.parts.length - (intOf i).toNat)
    case atStart => exact ⟨0, [], st.2, Nat.zero_le _, rfl, HST3, Lib.hid (FGot.start _ _ _ _), Lib.hid rfl, Lib.hid ⟨h65, Nat.zero_le _⟩, HBLD⟩
    case round =>
      obtain ⟨q, acc, s, hq, rfl, HS, HG, HEQ, HLE, HBD⟩ := hrel
      have HGL := Lib.hid ((HGW.out.below HB3.out).trans HG.out HB2.out.size)
      have HWR := Lib.hid (show Below W0.heap.size W0 wr from HGL.out.base HBW.out HBW.out.size HST.out.lo (fun j hj => (HST.out.own.lt j hj).1))
      have HOB := Lib.hid (show b < w2.heap.size ∧ ∀ j, ov.ownBlock = some j → j < w2.heap.size from ⟨by have := HBL.out; have := HB2.out.size; omega, fun j hj => by have := (HST.out.own.lt j hj).2; have := HB2.out.size; omega⟩)
      have HSZ := Lib.hid (show w2.heap.size ≤ wr.heap.size by have := HG.out.size; omega)
      by_cases h1 : q < nd.parts.length
      · have h1' : (q : Int) < (nd.parts.length : Int) := by omega
        have hx := HX.out
        rcases hx with hx | ⟨g, eo, rfl, hx⟩
        · exfalso; rw [hx] at h1; simp at h1
        have hg2 : g < w2.heap.size := lt_of_cell (hx q nd.parts[q] (by simp [h1]) 0 _ rfl)
        have hblk : wr.heap[g]? = w2.heap[g]? := by
          have h3 := HVB.out g rfl
          have h4 := HBL.out
          refine (HG.out.block g hg2 (by omega) (by omega) (fun e => ?_)).trans (HB3.out.block g hg2)
          have := (HST.out.own.lt g e.symm).2; omega
        have hcl : ∀ i u, (prtC nd.parts[q])[i]? = some u → wr.cell? ⟨g, eo + q * 2 + i, none⟩ = some u := fun i u hu => (World.cell?_of_block (a := ⟨g, eo + q * 2 + i, none⟩) hblk).trans (hx q nd.parts[q] (by simp [h1]) i u hu)
        have m0 := hcl 0 _ rfl
        have m1 := hcl 1 _ rfl
        have HDR := Lib.hid (show nd.parts.drop q = nd.parts[q] :: nd.parts.drop (q + 1) from List.drop_eq_getElem_cons h1)
        clear hcl hblk hx
        generalize nd.parts[q] = pt at *
        obtain ⟨pk, pz⟩ := pt
        simp only [Nat.add_zero] at m0 m1
        obtain ⟨we, hwe, hbe, hze⟩ : ∃ we, we = wr.alloc (.cells #[S pk, .int .i64 pz] 100) ∧ Below wr.heap.size wr we ∧ we.heap[wr.heap.size]? = some (.cells #[S pk, .int .i64 pz] 100 (0, 0)) :=
          ⟨_, rfl, (Below.refl _ _).alloc (Nat.le_refl _) _, heap_alloc_new _ _⟩
        have CE := CLL.out pk 1 s we (HS.out.below hbe) (below_chain HWR.out hbe HWR.out.size)
        unfold LoadPost at CE
        have HCONS := Lib.hid (show fc = if loadC o pk 1 ≠ 0 then ([], s, loadC o pk 1) else if ((nodeC o pk).data.length : Int) ≠ pz ∨ 65536 < s + (nodeC o pk).data.length then ([], s + (nodeC o pk).data.length, 4) else partsC o (nd.parts.drop (q + 1)) (acc ++ (nodeC o pk).data) (s + (nodeC o pk).data.length) by rw [HRES.out, HEQ.out, HDR.out]; exact partsC_cons _ _ _ _ _)
        have HOK2 := Lib.hid (fun (h : loadC o pk 1 = 0) => loadC_ok h)
        have HM2 := Lib.hid (HMEM.out pk 1)
        have HND2 : (readN (rootOf (findR o pk))).1 = nodeC o pk := rfl
        rw [HND2] at CE
        clear HND2
        generalize nodeC o pk = nn at *
        generalize loadC o pk 1 = l2 at *
        obtain ⟨⟨r0, r1⟩, -, -⟩ := box2 hze
        have HBE := Lib.hid hbe
        have HZE := Lib.hid hze
        clear hbe hze hg2
        go_upto_region 8 with fail
        rw [← hwe]
        clear hwe m0 m1
        go_wp2_with fail
        refine CE.mono ?_
        rintro e w5 ⟨pn, vp2, ve2, ev2, rfl, hnr2, -, hb5, hev2⟩
        obtain ⟨pa2, pc2, rfl⟩ := row_slice hnr2.parts
        obtain ⟨ua2, uc2, rfl⟩ := row_slice hnr2.ents
        obtain ⟨w6, hw6, HB6, HN6, hz6⟩ : ∃ w6, w6 = w5.alloc (.cells #[.int .i64 pn.kind, S pn.data, .slice pa2 pn.parts.length pc2, .slice ua2 pn.ents.length uc2] 77) ∧ Hid (Below wr.heap.size wr w6) ∧ Hid (w6.heap[w5.heap.size]? = some (.cells #[.int .i64 pn.kind, S pn.data, .slice pa2 pn.parts.length pc2, .slice ua2 pn.ents.length uc2] 77 (0, 0))) ∧ w6.heap[wr.heap.size]? = some (.cells #[S pk, .int .i64 pz] 100 (0, 0)) :=
          ⟨_, rfl, Lib.hid ((below_chain HBE.out hb5 HBE.out.size).alloc (by have := HBE.out.size; have := hb5.size; omega) _), Lib.hid (heap_alloc_new _ _), by
            have h8 := (hb5.block _ (heap_lt HZE.out)).trans HZE.out
            exact (Below.heap_alloc _ _ _ (heap_lt h8)).trans h8⟩
        have HZ6 := Lib.hid hz6
        have HS6 := Lib.hid (HS.out.below HB6.out)
        have HG6 := Lib.hid (HG.out.below HB6.out)
        have HD6 := Lib.hid (bld_onF HBD.out HB6.out)
        have HW5 := Lib.hid (show wr.heap.size < w5.heap.size by have := heap_lt HZE.out; have := hb5.size; omega)
        rcases hev2 with ⟨hl2, rfl, rfl⟩ | ⟨hl2, g5, rfl, hg5⟩
        · obtain ⟨hfn, hkd, -⟩ := HOK2.out hl2
          have HL2 := Lib.hid hl2
          have hdat : pn.data ≠ [] ∧ pn.data.length ≤ 4096 := by
            rcases hfn with h | h | h
            · exact ⟨h.2.1, h.2.2.1⟩
            · rw [h.1] at hkd; cases hkd
            · rw [h.1] at hkd; cases hkd
          have HDP := Lib.hid (List.length_pos_iff.2 hdat.1)
          have hdl := hdat.2
          clear CE hnr2 hb5 hl2 hfn hkd hdat hz6 r0 r1
          go_upto_region 9 with fail
          rw [← hw6]
          clear hw6
          go_upto_region 11 with fail
          obtain ⟨w7, hw7, hF7, hN7, HS7, HG7, HD7, HZ7, HW7⟩ : ∃ w7 : World, w7 = { w6 with drawn := w6.drawn + 1 } ∧ w7.heap[b]? = some (.cells #[.slice la o.length lc, ov, .int .i64 (s : Nat)] 55 (0, 0)) ∧ w7.heap[w5.heap.size]? = some (.cells #[.int .i64 pn.kind, S pn.data, .slice pa2 pn.parts.length pc2, .slice ua2 pn.ents.length uc2] 77 (0, 0)) ∧ Hid (FSt W0.heap.size b w7 la lc o ov (st.1, s)) ∧ Hid (FGot b w2.heap.size w3 w7 ov ov) ∧ Hid (IsBld w2.heap.size w2.heap.size acc w7) ∧ Hid (w7.heap[wr.heap.size]? = some (.cells #[S pk, .int .i64 pz] 100 (0, 0))) ∧ Hid (w2.heap.size ≤ w7.heap.size) := by
            have hdr : Below w6.heap.size w6 { w6 with drawn := w6.drawn + 1 } := ⟨rfl, rfl, rfl, Nat.le_refl _, fun _ _ => rfl⟩
            exact ⟨_, rfl, HS6.out.box, HN6.out, Lib.hid (HS6.out.below hdr), Lib.hid (HG6.out.below hdr), Lib.hid (bld_onF HD6.out hdr), HZ6, Lib.hid (Nat.le_trans HSZ.out HB6.out.size)⟩
          (refine wp_region_held (S := fun w' => w'.heap[w5.heap.size]? = some (.cells #[.int .i64 pn.kind, S pn.data, .slice pa2 pn.parts.length pc2, .slice ua2 pn.ents.length uc2] 77 (0, 0))) (by kernel_rfl) ?_)
          rw [← hw7]
          clear hw7
          have hs6 := HLE.out.1
          have hwp : IntKind.i64.wrap ((s : Int) + (pn.data.length : Int)) = ((s + pn.data.length : Nat) : Int) := by rw [IntKind.wrap_i64]; omega
          have hb5b : w5.heap.size ≠ b := by have := HOB.out.1; have := HSZ.out; have := HW5.out; omega
          (refine wpAnyH_take (i := 0) (v := ?_) rfl (by kernel_rfl) (by kernel_rfl) (by kernel_rfl) (fun _ _ _ h => h) (Or.inl ⟨by rfl, ?_⟩) (by exact hN7) ?_; rotate_left; (intro w9 hS9; skip; go_simp; try with_reducible rfl))
          (refine wpAnyH_take (i := 1) (v := ?_) rfl (by kernel_rfl) (by kernel_rfl) (by kernel_rfl) (fun _ _ _ h => h) (Or.inl ⟨by rfl, ?_⟩) (by exact hN7) ?_; rotate_left; (intro w9 hS9; skip; go_simp; try with_reducible rfl))
          (refine wpAnyH_take (i := 2) (v := ?_) rfl (by kernel_rfl) (by kernel_rfl) (by kernel_rfl) (fun _ _ _ h => h) (Or.inl ⟨by rfl, ?_⟩) (by exact hN7) ?_; rotate_left; (intro w9 hS9; skip; go_simp; try with_reducible rfl))
          (refine wpAnyH_take (i := 4) (v := ?_) rfl (by kernel_rfl) (by kernel_rfl) (by kernel_rfl) (fun _ _ _ h => h) (Or.inl ⟨by rfl, ?_⟩) (by exact hN7) ?_; rotate_left; (intro w9 hS9; skip; go_simp; try with_reducible rfl))
          (refine wpAnyH_take (i := 5) (v := ?_) rfl (by kernel_rfl) (by kernel_rfl) (by kernel_rfl) (fun _ _ _ h => h) (Or.inl ⟨by rfl, ?_⟩) (by exact hN7) ?_; rotate_left; (intro w9 hS9; (have c2 := heap_cell hS9 (j := 1) (v := S pn.data) rfl); go_simp; try with_reducible rfl))
          (refine wpAnyH_take (i := 6) (v := ?_) rfl (by kernel_rfl) (by kernel_rfl) (by kernel_rfl) (fun _ _ _ h => h) (Or.inl ⟨by rfl, ?_⟩) (by exact hN7) ?_; rotate_left; (intro w9 hS9; skip; go_simp; try with_reducible rfl))
          have g1 := heap_cell hF7 (j := 2) (v := .int .i64 (s : Nat)) rfl
          have gf := Lib.frozen_of_heap hF7 2
          have g2 := is_some g1
          (refine wpAnyH_one (i := 3) (by kernel_rfl) rfl (fun K hK => ?_); go_simp; refine hK _ _ (hN7) ?_; clear hK K)
          (refine wpAnyH_take (i := 7) (v := ?_) rfl (by kernel_rfl) (by kernel_rfl) (by kernel_rfl) (fun _ _ _ h => h) (Or.inl ⟨by rfl, ?_⟩) (by exact hN7) ?_; rotate_left; (intro w9 hS9; skip; go_simp; try with_reducible rfl))
          (refine wpAnyH_take (i := 8) (v := ?_) rfl (by kernel_rfl) (by kernel_rfl) (by kernel_rfl) (fun _ _ _ h => h) (Or.inl ⟨by rfl, ?_⟩) (by exact hN7) ?_; rotate_left; (intro w9 hS9; skip; go_simp; try with_reducible rfl))
          (refine wpAnyH_take (i := 9) (v := ?_) rfl (by kernel_rfl) (by kernel_rfl) (by kernel_rfl) (fun _ _ _ h => h) (Or.inl ⟨by rfl, ?_⟩) (by exact hN7) ?_; rotate_left; (intro w9 hS9; skip; go_simp; try with_reducible rfl))
          (refine wpAnyH_one (i := 10) (by kernel_rfl) rfl (fun K hK => ?_); go_simp; refine hK _ _ ((Below.heap_setCell _ _ _ _ hb5b).trans hN7) ?_; clear hK K)
          (refine wpAnyH_done (by kernel_rfl) ?_ _)
          obtain ⟨w8, hw8, hF8, hN8, hZ8, HS8, HG8, HD8, HW8⟩ : ∃ w8, w8 = w7.setCell ⟨b, 2, none⟩ (.int .i64 ((s + pn.data.length : Nat) : Int)) ∧ w8.heap[b]? = some (.cells #[.slice la o.length lc, ov, .int .i64 ((s + pn.data.length : Nat) : Int)] 55 (0, 0)) ∧ w8.heap[w5.heap.size]? = some (.cells #[.int .i64 pn.kind, S pn.data, .slice pa2 pn.parts.length pc2, .slice ua2 pn.ents.length uc2] 77 (0, 0)) ∧ w8.heap[wr.heap.size]? = some (.cells #[S pk, .int .i64 pz] 100 (0, 0)) ∧ Hid (FSt W0.heap.size b w8 la lc o ov (st.1, s + pn.data.length)) ∧ Hid (FGot b w2.heap.size w3 w8 ov ov) ∧ Hid (IsBld w2.heap.size w2.heap.size acc w8) ∧ Hid (w2.heap.size ≤ w8.heap.size) :=
            ⟨_, rfl, heap_set_cell (o := 2) hF7 _, (Below.heap_setCell _ _ _ _ hb5b).trans hN7, (Below.heap_setCell _ _ _ _ (show wr.heap.size ≠ b by have := HOB.out.1; have := HSZ.out; omega)).trans HZ7.out, Lib.hid (HS7.out.resize _), Lib.hid (HG7.out.set 2 _), Lib.hid (bld_setF HD7.out HOB.out.1 2 _), Lib.hid (by simpa using HW7.out)⟩
          rw [show ((s : Int) + (pn.data.length : Int)) = ((s + pn.data.length : Nat) : Int) from (Int.natCast_add _ _).symm, ← hw8]
          clear hw8 g1 gf g2 hF7 hN7
          have d2 := heap_cell hF8 (j := 2) (v := .int .i64 ((s + pn.data.length : Nat) : Int)) rfl
          obtain ⟨⟨e0, e1, e2, e3⟩, -, -⟩ := box4 hN8
          obtain ⟨⟨r0, r1⟩, -, -⟩ := box2 hZ8
          clear hF8 hN8 hZ8
          by_cases hbad : (pn.data.length : Int) ≠ pz ∨ 65536 < s + pn.data.length
          · have HRR := Lib.hid (show fc = ([], s + pn.data.length, 4) by rw [HCONS.out, if_neg (by rw [HL2.out]; simp), if_pos hbad])
            have hfin : ∀ W, Below w8.heap.size w8 W → W.heap[w8.heap.size]? = some (.cells #[.int .i64 4, S path] 116 (0, 0)) → FSt W0.heap.size b W la lc o ov (st.1, fc.2.1) ∧ FGot b w.heap.size w W ov ov ∧ ErrC fc.2.2 (.iface 114 (.pointer (some ⟨w8.heap.size, 0, none⟩))) W := fun W hb hc => by
              rw [HRR.out]
              exact ⟨HS8.out.below hb, (((HGW.out.below HB3.out).trans HG8.out HB2.out.size).below hb), .inr ⟨(show (4 : Int) ≠ 0 by decide), (show (4 : Int) ∈ numsL by decide), _, _, rfl, hc⟩⟩
            have HFIN := Lib.hid hfin
            have HR1 := Lib.hid (show fc.1 = [] by rw [HRR.out])
            clear hfin
            by_cases hne : (pn.data.length : Int) = pz
            · have hq2 : (65536 : Int) < (s : Int) + (pn.data.length : Int) := by
                rcases hbad with h | h
                · exact absurd hne h
                · omega
              clear hbad HCONS
              subst hne
              go_wp2
              go_ret2
              obtain ⟨x1, x2, x3⟩ := HFIN.out _ ((Below.refl _ _).alloc (Nat.le_refl _) _) (heap_alloc_new _ _)
              exact ⟨_, by rw [HR1.out]; rfl, x1, x2, x3⟩
            · clear hbad
              go_wp2
              go_ret2
              obtain ⟨x1, x2, x3⟩ := HFIN.out _ ((Below.refl _ _).alloc (Nat.le_refl _) _) (heap_alloc_new _ _)
              exact ⟨_, by rw [HR1.out]; rfl, x1, x2, x3⟩
          · have HCC := Lib.hid (show fc = partsC o (nd.parts.drop (q + 1)) (acc ++ pn.data) (s + pn.data.length) by rw [HCONS.out, if_neg (by rw [HL2.out]; simp), if_neg hbad])
            have hpz : (pn.data.length : Int) = pz := Classical.not_not.1 (fun h => hbad (.inl h))
            have h6 : ¬ 65536 < s + pn.data.length := fun h => hbad (.inr h)
            have hq2 : ¬ (65536 : Int) < (s : Int) + (pn.data.length : Int) := by omega
            have HLE2 := Lib.hid (show s + pn.data.length ≤ 65536 ∧ (acc ++ pn.data).length ≤ s + pn.data.length by have := HLE.out; rw [List.length_append]; omega)
            have CW := wstr_walk w2.heap.size w2.heap.size acc pn.data w8 HD8.out (by have := HLE.out; omega) (by omega) HDP.out HW8.out
            clear hbad h6 HCONS
            subst hpz
            go_wp2_with fail
            refine CW.mono ?_
            rintro e w9 ⟨⟨qq, rfl⟩, hbld9, hb9⟩
            have HS9 := Lib.hid (HS8.out.belowN hb9 HOB.out.1 HOB.out.2)
            have HG9 := Lib.hid (HG8.out.belowN hb9 (Nat.le_refl _))
            have HD9 := Lib.hid hbld9
            clear CW hbld9 hb9 d2 e0 e1 e2 e3 r0 r1
            go_wp2
            go_roundw
            case rel => exact ⟨q + 1, acc ++ pn.data, s + pn.data.length, by omega, by go_num, HS9, HG9, Lib.hid (by rw [← HRES.out]; exact HCC.out), HLE2, HD9⟩
            case measure => simp [intOf]; omega
        · have HER := Lib.hid (show ErrC l2 (.iface 114 (.pointer (some ⟨g5, 0, none⟩))) w6 from .inr ⟨hl2, HM2.out hl2, g5, _, rfl, by rw [hw6]; exact (Below.heap_alloc _ _ _ (heap_lt hg5)).trans hg5⟩)
          have HRR := Lib.hid (show fc = ([], s, l2) by rw [HCONS.out, if_pos hl2])
          clear CE hnr2 hb5 hl2 hg5 hz6 r0 r1
          go_upto_region 9 with fail
          rw [← hw6]
          clear hw6
          go_wp2
          go_ret2
          exact ⟨_, by rw [HRR.out]; rfl, by rw [HRR.out]; exact HS6.out, HGL.out.below HB6.out, by rw [HRR.out]; exact HER.out⟩
      · have h1' : ¬ (q : Int) < (nd.parts.length : Int) := by omega
        have HRR := Lib.hid (show fc = (acc, s, 0) by rw [HRES.out, HEQ.out, List.drop_eq_nil_of_le (by omega)]; rfl)
        have CS := bstring_walk w2.heap.size w2.heap.size acc wr HBD.out HSZ.out
        go_wp2_with fail
        refine CS.mono ?_
        rintro e w9 ⟨rfl, hb9⟩
        have HS9 := Lib.hid (HS.out.belowN hb9 HOB.out.1 HOB.out.2)
        have HG9 := Lib.hid (HGL.out.belowN hb9 HB2.out.size)
        clear CS hb9
        go_wp2
        go_ret2
        exact ⟨_, by rw [HRR.out]; rfl, by rw [HRR.out]; exact HS9.out, HG9.out, by rw [HRR.out]; exact .inl ⟨rfl, rfl⟩⟩
  · have HL0 := Lib.hid hl0
    have HRES := Lib.hid (show fc = ([], st.2, lcd) by rw [HFC.out, if_pos hl0])
    have HG2 := Lib.hid (show w2.heap[g]? = some (.cells #[.int .i64 lcd, S path] 116 (0, 0)) by rw [hw2]; exact (Below.heap_alloc _ _ _ (heap_lt hg)).trans hg)
    have HMM := Lib.hid (HM0.out hl0)
    clear C0 hnr hb1 hl0 hg hn2
    go_upto_region 2 with fail
    rw [← hw2]
    clear hw2
    go_wp2
    go_ret2
    exact ⟨_, by rw [HRES.out]; rfl, by rw [HRES.out]; exact HST2.out, HGW.out, by rw [HRES.out]; exact .inr ⟨HL0.out, HMM.out, g, _, rfl, HG2.out⟩⟩
end Go.Proofs.YtkejdbidomlonaaGreatDoor
