/- Rows of the call's own, kept and looked at; blocks behind an alloc. fetch's load of a node; the number of a fault. -/
import Derived.Test.YtkejdbidomlonaaGreatDoorJNodeFit
import Derived.Test.YtkejdbidomlonaaGreatDoorJAppSep
import Derived.Test.YtkejdbidomlonaaGreatDoorJObjAt
import Derived.Test.YtkejdbidomlonaaGreatDoorJPRead11
import Derived.Test.YtkejdbidomlonaaGreatDoorPSha5
import Derived.Test.YtkejdbidomlonaaGreatDoorJKeyNP
namespace Go.Proofs.YtkejdbidomlonaaGreatDoor
open Go.RowKit

theorem own_keep {w w' : World} {B e K n : Nat} {v : Value} {xs : List Value} (h : w.ownsRow B e K v n xs) (hk : ∀ g, B ≤ g → g < w.heap.size → w'.heap[g]? = w.heap[g]?) : w'.ownsRow B e K v n xs := by
  have hlt := h.lt
  obtain ⟨h1, h2⟩ := h
  refine ⟨h1, ?_⟩
  rcases h2 with h2 | ⟨g, cap, cur, rfl, hb, hg, h3⟩
  · exact .inl h2
  · exact .inr ⟨g, cap, cur, rfl, hb, (hk g hb (hlt g rfl).2).trans hg, h3⟩
theorem own_slice {w : World} {B e K n : Nat} {v : Value} {xs : List Value} (h : w.ownsRow B e K v n xs) : ∃ a m c, v = .slice a m c := by
  rcases h.2 with ⟨rfl, _⟩ | ⟨g, cap, cur, rfl, _⟩
  · exact ⟨_, _, _, rfl⟩
  · exact ⟨_, _, _, rfl⟩
theorem own_set {w : World} {B e K n b o : Nat} {v u : Value} {xs : List Value} (h : w.ownsRow B e K v n xs) (hb : b < B) : (w.setCell ⟨b, o, none⟩ u).ownsRow B e K v n xs :=
  own_keep h (fun g h1 _ => Below.heap_setCell _ _ _ _ (by show g ≠ b; omega))
theorem below_setC {B : Nat} {w w' : World} (h : Below B w w') {g : Nat} (hg : B ≤ g) (o : Nat) (u : Value) : Below B w (w'.setCell ⟨g, o, none⟩ u) := h.setCell (p := ⟨g, o, none⟩) hg u
theorem heap_old {w : World} {o x : Obj} {k : Nat} (h : w.heap[k]? = some x) : (w.alloc o).heap[k]? = some x := (Below.heap_alloc w o k (heap_lt h)).trans h
theorem heap_new' {w : World} {k : Nat} (h : k = w.heap.size) (o : Obj) : (w.alloc o).heap[k]? = some o := by subst h; exact heap_alloc_new w o
end Go.Proofs.YtkejdbidomlonaaGreatDoor

namespace Go.Proofs.YtkejdbidomlonaaGreatDoor
open Go.RowKit

def LoadPost (o : List Snp) (key : List UInt8) (kind : Int) (path : List UInt8) (w : World) (e : Ending) (w' : World) : Prop :=
  ∃ (n : Nod) (vp ve ev : Value), e = .returned (.tuple #[NodV n vp ve, ev]) ∧ NodRow w' n vp ve ∧ Hid ((∀ j, vp.ownBlock = some j → w.heap.size ≤ j) ∧ ∀ j, ve.ownBlock = some j → w.heap.size ≤ j) ∧ Below w.heap.size w w' ∧
    ((loadC o key kind = 0 ∧ ev = .nilIface ∧ n = (readN (rootOf (findR o key))).1) ∨ (loadC o key kind ≠ 0 ∧ ∃ g, ev = .iface 114 (.pointer (some ⟨g, 0, none⟩)) ∧ w'.heap[g]? = some (.cells #[.int .i64 (loadC o key kind), S path] 116 (0, 0))))

set_option maxHeartbeats 4000000 in
set_option maxRecDepth 100000 in
theorem load_walk (b : Nat) (la : Option Addr) (lc : Nat) (ov sv : Value) (o : List Snp) (key : List UInt8) (kind : Int) (path : List UInt8) (w : World)
    (hf : w.heap[b]? = some (.cells #[.slice la o.length lc, ov, sv] 55 (0, 0))) (ho : SnpRow w (.slice la o.length lc) o) (hT : ErrT w) (hup : upS (namesR o)) (hol : o.length ≤ 1100000) (hraw : ∀ x ∈ o, x.2.length ≤ 1000000) :
    Calls Tryz.prog 44 #[.pointer (some ⟨b, 0, none⟩), S key, .int .i64 kind, S path] w (LoadPost o key kind path w) := by
  obtain ⟨w1, hw1, hb1, hz1⟩ : ∃ w1, w1 = w.alloc (.cells #[.int .i64 0, .string ⟨#[]⟩, .slice none 0 0, .slice none 0 0] 77) ∧ Below w.heap.size w w1 ∧ w1.heap[w.heap.size]? = some (.cells #[.int .i64 0, .string ⟨#[]⟩, .slice none 0 0, .slice none 0 0] 77 (0, 0)) :=
    ⟨_, rfl, (Below.refl _ _).alloc (Nat.le_refl _) _, heap_alloc_new _ _⟩
  have c0 := heap_cell ((hb1.block _ (heap_lt hf)).trans hf) (j := 0) (v := .slice la o.length lc) rfl
  have CG := pget_walk (.slice la o.length lc) o key w1 (ho.below hb1) hol hup
  have HT1 := Lib.hid (hT.below hb1)
  have hrl : (rootOf (findR o key)).length ≤ 1000000 := by
    cases hf : findR o key with
    | none => simp [rootOf]
    | some r =>
      unfold findR at hf
      rw [Option.map_eq_some_iff] at hf
      obtain ⟨x, hx, rfl⟩ := hf
      exact hraw x (List.mem_of_find?_eq_some hx)
  have HLC := Lib.hid (show loadC o key kind = if (findR o key).isSome = false then 5 else if shaF (rootOf (findR o key)) ≠ key then 11 else if (readN (rootOf (findR o key))).2 ≠ 0 then 2 else if (readN (rootOf (findR o key))).1.kind ≠ kind then 10 else 0 from rfl)
  have HEND := Lib.hid (fun (e : Ending) (w' : World) (h : LoadPost o key kind path w e w') => h)
  unfold LoadPost
  generalize loadC o key kind = lcd at *
  generalize rootOf (findR o key) = raw at *
  generalize (findR o key).isSome = is at *
  clear hf ho hT hraw HEND
  go_enter Tryz.func44, Tryz.ntmps44
  go_upto_region 1 with fail
  rw [← hw1]
  clear hw1
  go_wp2_with fail
  refine CG.mono ?_
  rintro e w2 ⟨rfl, hb2⟩
  have hz2 := (hb2.block _ (heap_lt hz1)).trans hz1
  have HB2 := Lib.hid (below_chain hb1 hb2 hb1.size)
  have HT2 := Lib.hid (HT1.out.below hb2)
  clear CG hb1 hb2 hz1 c0
  cases is with
  | false =>
    have HC := Lib.hid (show lcd = 5 from HLC.out.trans (if_pos rfl))
    obtain ⟨hza, HGA⟩ : (w2.alloc (.cells #[.int .i64 5, S path] 116)).heap[w.heap.size]? = some (.cells #[.int .i64 0, .string ⟨#[]⟩, .slice none 0 0, .slice none 0 0] 77 (0, 0)) ∧ Hid ((w2.alloc (.cells #[.int .i64 5, S path] 116)).heap[w2.heap.size]? = some (.cells #[.int .i64 5, S path] 116 (0, 0))) := ⟨(Below.heap_alloc _ _ _ (heap_lt hz2)).trans hz2, Lib.hid (heap_alloc_new _ _)⟩
    have HZL := Lib.hid (heap_lt hz2)
    obtain ⟨⟨c0, c1, c2, c3⟩, ⟨f0, f1, f2, f3⟩, ⟨q0, q1, q2, q3⟩⟩ := box4 hza
    obtain ⟨w9, hw9, hz9, HG9, HB9⟩ : ∃ w9, w9 = ((((w2.alloc (.cells #[.int .i64 5, S path] 116)).setCell ⟨w.heap.size, 0, none⟩ (.int .i64 0)).setCell ⟨w.heap.size, 1, none⟩ (.string ⟨#[]⟩)).setCell ⟨w.heap.size, 2, none⟩ (.slice none 0 0)).setCell ⟨w.heap.size, 3, none⟩ (.slice none 0 0) ∧ w9.heap[w.heap.size]? = some (.cells #[.int .i64 0, .string ⟨#[]⟩, .slice none 0 0, .slice none 0 0] 77 (0, 0)) ∧ Hid (w9.heap[w2.heap.size]? = some (.cells #[.int .i64 5, S path] 116 (0, 0))) ∧ Hid (Below w.heap.size w w9) := by
      have hne : w2.heap.size ≠ w.heap.size := by have := HZL.out; omega
      exact ⟨_, rfl, heap_set_cell (heap_set_cell (heap_set_cell (heap_set_cell hza _) _) _) _, Lib.hid ((Below.heap_setCell _ _ _ _ hne).trans ((Below.heap_setCell _ _ _ _ hne).trans ((Below.heap_setCell _ _ _ _ hne).trans ((Below.heap_setCell _ _ _ _ hne).trans HGA.out)))),
        Lib.hid (below_setT (below_setT (below_setT (below_setT (HB2.out.alloc HB2.out.size _) (Nat.le_refl _) _ _) (Nat.le_refl _) _ _) (Nat.le_refl _) _ _) (Nat.le_refl _) _ _)⟩
    clear hza hz2
    go_wp2
    rw [← hw9]
    obtain ⟨⟨x0, x1, x2, x3⟩, -, -⟩ := box4 hz9
    refine bodyPost_ret (v := .tuple #[NodV zNod (.slice none 0 0) (.slice none 0 0), .iface 114 (.pointer (some ⟨w2.heap.size, 0, none⟩))]) (by simp [results, Tryz.results44, go_sem, x0, x1, x2, x3, zNod]) rfl ?_
    exact ⟨_, _, _, _, rfl, ⟨Row.nil _ _, Row.nil _ _⟩, Lib.hid ⟨by simp [Value.ownBlock], by simp [Value.ownBlock]⟩, HB9.out, .inr ⟨by rw [HC.out]; decide, _, rfl, by rw [HC.out]; exact HG9.out⟩⟩
  | true =>
  have CS := psha_walk raw w2 (by omega)
  obtain ⟨sm, hsm⟩ : ∃ sm, shaF raw = sm := ⟨_, rfl⟩
  rw [hsm] at CS HLC
  clear hsm
  go_wp2_with fail
  refine CS.mono ?_
  rintro e w3 ⟨rfl, hb3⟩
  have hz3 := (hb3.block _ (heap_lt hz2)).trans hz2
  have HB3 := Lib.hid (below_chain HB2.out hb3 HB2.out.size)
  have HT3 := Lib.hid (HT2.out.below hb3)
  clear CS hb3 hz2
  by_cases hk : sm = key
  case neg =>
    have hq : (sm != key) = true := by rw [bne_iff_ne]; exact hk
    have hq0 : (sm == key) = false := by rw [beq_eq_false_iff_ne]; exact hk
    have HC := Lib.hid (show lcd = 11 from HLC.out.trans ((if_neg (by simp)).trans (if_pos hk)))
    clear hk
    obtain ⟨hza, HGA⟩ : (w3.alloc (.cells #[.int .i64 11, S path] 116)).heap[w.heap.size]? = some (.cells #[.int .i64 0, .string ⟨#[]⟩, .slice none 0 0, .slice none 0 0] 77 (0, 0)) ∧ Hid ((w3.alloc (.cells #[.int .i64 11, S path] 116)).heap[w3.heap.size]? = some (.cells #[.int .i64 11, S path] 116 (0, 0))) := ⟨(Below.heap_alloc _ _ _ (heap_lt hz3)).trans hz3, Lib.hid (heap_alloc_new _ _)⟩
    have HZL := Lib.hid (heap_lt hz3)
    obtain ⟨⟨c0, c1, c2, c3⟩, ⟨f0, f1, f2, f3⟩, ⟨q0, q1, q2, q3⟩⟩ := box4 hza
    obtain ⟨w9, hw9, hz9, HG9, HB9⟩ : ∃ w9, w9 = ((((w3.alloc (.cells #[.int .i64 11, S path] 116)).setCell ⟨w.heap.size, 0, none⟩ (.int .i64 0)).setCell ⟨w.heap.size, 1, none⟩ (.string ⟨#[]⟩)).setCell ⟨w.heap.size, 2, none⟩ (.slice none 0 0)).setCell ⟨w.heap.size, 3, none⟩ (.slice none 0 0) ∧ w9.heap[w.heap.size]? = some (.cells #[.int .i64 0, .string ⟨#[]⟩, .slice none 0 0, .slice none 0 0] 77 (0, 0)) ∧ Hid (w9.heap[w3.heap.size]? = some (.cells #[.int .i64 11, S path] 116 (0, 0))) ∧ Hid (Below w.heap.size w w9) := by
      have hne : w3.heap.size ≠ w.heap.size := by have := HZL.out; omega
      exact ⟨_, rfl, heap_set_cell (heap_set_cell (heap_set_cell (heap_set_cell hza _) _) _) _, Lib.hid ((Below.heap_setCell _ _ _ _ hne).trans ((Below.heap_setCell _ _ _ _ hne).trans ((Below.heap_setCell _ _ _ _ hne).trans ((Below.heap_setCell _ _ _ _ hne).trans HGA.out)))),
        Lib.hid (below_setT (below_setT (below_setT (below_setT (HB3.out.alloc HB3.out.size _) (Nat.le_refl _) _ _) (Nat.le_refl _) _ _) (Nat.le_refl _) _ _) (Nat.le_refl _) _ _)⟩
    clear hza hz3
    go_wp2
    rw [← hw9]
    obtain ⟨⟨x0, x1, x2, x3⟩, -, -⟩ := box4 hz9
    refine bodyPost_ret (v := .tuple #[NodV zNod (.slice none 0 0) (.slice none 0 0), .iface 114 (.pointer (some ⟨w3.heap.size, 0, none⟩))]) (by simp [results, Tryz.results44, go_sem, x0, x1, x2, x3, zNod]) rfl ?_
    exact ⟨_, _, _, _, rfl, ⟨Row.nil _ _, Row.nil _ _⟩, Lib.hid ⟨by simp [Value.ownBlock], by simp [Value.ownBlock]⟩, HB9.out, .inr ⟨by rw [HC.out]; decide, _, rfl, by rw [HC.out]; exact HG9.out⟩⟩
  have HSM := Lib.hid hk
  have hq : (sm != key) = false := by rw [bne_eq_false_iff_eq]; exact hk
  have hq0 : (sm == key) = true := by rw [beq_iff_eq]; exact hk
  have CR := pread2_walk raw w3 HT3.out hrl
  clear hk
  go_wp2_with fail
  refine CR.mono ?_
  rintro e w4 ⟨vp, ve, rfl, hnr, hvb, hb4⟩
  obtain ⟨pa, pc, rfl⟩ := row_slice hnr.parts
  obtain ⟨ua, uc, rfl⟩ := row_slice hnr.ents
  obtain ⟨w5, hw5, hb45, hn5⟩ : ∃ w5, w5 = w4.alloc (.cells #[.int .i64 (readN raw).1.kind, S (readN raw).1.data, .slice pa (readN raw).1.parts.length pc, .slice ua (readN raw).1.ents.length uc] 77) ∧ Below w4.heap.size w4 w5 ∧ w5.heap[w4.heap.size]? = some (.cells #[.int .i64 (readN raw).1.kind, S (readN raw).1.data, .slice pa (readN raw).1.parts.length pc, .slice ua (readN raw).1.ents.length uc] 77 (0, 0)) :=
    ⟨_, rfl, (Below.refl _ _).alloc (Nat.le_refl _) _, heap_alloc_new _ _⟩
  have hz5 := (hb45.block _ (by have := heap_lt hz3; have := hb4.size; omega)).trans ((hb4.block _ (heap_lt hz3)).trans hz3)
  have HB5 := Lib.hid (below_chain (below_chain HB3.out hb4 HB3.out.size) hb45 (by have := HB3.out.size; have := hb4.size; omega))
  have HN5 := Lib.hid (hnr.below hb45)
  have HSZ := Lib.hid (show w.heap.size < w4.heap.size by have := heap_lt hz3; have := hb4.size; omega)
  obtain ⟨er, her⟩ : ∃ er, (readN raw).2 = er := ⟨_, rfl⟩
  obtain ⟨n, hn⟩ : ∃ n, (readN raw).1 = n := ⟨_, rfl⟩
  rw [her, hn] at HLC
  rw [hn] at hw5 hn5 HN5
  have HNE := Lib.hid hn
  rw [hn] at hvb
  have hvz : ∀ j, (Value.slice pa n.parts.length pc).ownBlock = some j → w.heap.size ≠ j := fun j hj => by have := hvb.1 j hj; have := heap_lt hz3; omega
  have hvz2 : ∀ j, (Value.slice ua n.ents.length uc).ownBlock = some j → w.heap.size ≠ j := fun j hj => by have := hvb.2 j hj; have := heap_lt hz3; omega
  have HVZ := Lib.hid (And.intro hvz hvz2)
  have HVB := Lib.hid (show (∀ j, (Value.slice pa n.parts.length pc).ownBlock = some j → w.heap.size ≤ j) ∧ ∀ j, (Value.slice ua n.ents.length uc).ownBlock = some j → w.heap.size ≤ j from ⟨fun j hj => by have := hvb.1 j hj; have := HB3.out.size; omega, fun j hj => by have := hvb.2 j hj; have := HB3.out.size; omega⟩)
  rw [hn, her]
  clear CR hb4 hb45 hnr hz3 her hn hvb hvz hvz2
  go_upto_region 7 with fail
  rw [← hw5]
  clear hw5
  by_cases hr : er = 0
  case neg =>
    have hq2 : (er != 0) = true := by rw [bne_iff_ne]; exact hr
    have HC := Lib.hid (show lcd = 2 from HLC.out.trans ((if_neg (by simp)).trans ((if_neg (by simp [HSM.out])).trans (if_pos hr))))
    clear hr hn5
    obtain ⟨hza, HGA⟩ : (w5.alloc (.cells #[.int .i64 2, S path] 116)).heap[w.heap.size]? = some (.cells #[.int .i64 0, .string ⟨#[]⟩, .slice none 0 0, .slice none 0 0] 77 (0, 0)) ∧ Hid ((w5.alloc (.cells #[.int .i64 2, S path] 116)).heap[w5.heap.size]? = some (.cells #[.int .i64 2, S path] 116 (0, 0))) := ⟨(Below.heap_alloc _ _ _ (heap_lt hz5)).trans hz5, Lib.hid (heap_alloc_new _ _)⟩
    have HZL := Lib.hid (heap_lt hz5)
    obtain ⟨⟨c0, c1, c2, c3⟩, ⟨f0, f1, f2, f3⟩, ⟨q0, q1, q2, q3⟩⟩ := box4 hza
    obtain ⟨w9, hw9, hz9, HG9, HB9⟩ : ∃ w9, w9 = ((((w5.alloc (.cells #[.int .i64 2, S path] 116)).setCell ⟨w.heap.size, 0, none⟩ (.int .i64 0)).setCell ⟨w.heap.size, 1, none⟩ (.string ⟨#[]⟩)).setCell ⟨w.heap.size, 2, none⟩ (.slice none 0 0)).setCell ⟨w.heap.size, 3, none⟩ (.slice none 0 0) ∧ w9.heap[w.heap.size]? = some (.cells #[.int .i64 0, .string ⟨#[]⟩, .slice none 0 0, .slice none 0 0] 77 (0, 0)) ∧ Hid (w9.heap[w5.heap.size]? = some (.cells #[.int .i64 2, S path] 116 (0, 0))) ∧ Hid (Below w.heap.size w w9) := by
      have hne : w5.heap.size ≠ w.heap.size := by have := HZL.out; omega
      exact ⟨_, rfl, heap_set_cell (heap_set_cell (heap_set_cell (heap_set_cell hza _) _) _) _, Lib.hid ((Below.heap_setCell _ _ _ _ hne).trans ((Below.heap_setCell _ _ _ _ hne).trans ((Below.heap_setCell _ _ _ _ hne).trans ((Below.heap_setCell _ _ _ _ hne).trans HGA.out)))),
        Lib.hid (below_setT (below_setT (below_setT (below_setT (HB5.out.alloc HB5.out.size _) (Nat.le_refl _) _ _) (Nat.le_refl _) _ _) (Nat.le_refl _) _ _) (Nat.le_refl _) _ _)⟩
    clear hza hz5
    go_wp2
    rw [← hw9]
    obtain ⟨⟨x0, x1, x2, x3⟩, -, -⟩ := box4 hz9
    refine bodyPost_ret (v := .tuple #[NodV zNod (.slice none 0 0) (.slice none 0 0), .iface 114 (.pointer (some ⟨w5.heap.size, 0, none⟩))]) (by simp [results, Tryz.results44, go_sem, x0, x1, x2, x3, zNod]) rfl ?_
    exact ⟨_, _, _, _, rfl, ⟨Row.nil _ _, Row.nil _ _⟩, Lib.hid ⟨by simp [Value.ownBlock], by simp [Value.ownBlock]⟩, HB9.out, .inr ⟨by rw [HC.out]; decide, _, rfl, by rw [HC.out]; exact HG9.out⟩⟩
  subst hr
  obtain ⟨⟨n0, n1, n2, n3⟩, -, -⟩ := box4 hn5
  by_cases hkd : n.kind = kind
  case neg =>
    have hq3 : (n.kind != kind) = true := by rw [bne_iff_ne]; exact hkd
    have HC := Lib.hid (show lcd = 10 from HLC.out.trans ((if_neg (by simp)).trans ((if_neg (by simp [HSM.out])).trans ((if_neg (by simp)).trans (if_pos hkd)))))
    clear hkd hn5
    obtain ⟨hza, HGA⟩ : (w5.alloc (.cells #[.int .i64 10, S path] 116)).heap[w.heap.size]? = some (.cells #[.int .i64 0, .string ⟨#[]⟩, .slice none 0 0, .slice none 0 0] 77 (0, 0)) ∧ Hid ((w5.alloc (.cells #[.int .i64 10, S path] 116)).heap[w5.heap.size]? = some (.cells #[.int .i64 10, S path] 116 (0, 0))) := ⟨(Below.heap_alloc _ _ _ (heap_lt hz5)).trans hz5, Lib.hid (heap_alloc_new _ _)⟩
    have HZL := Lib.hid (heap_lt hz5)
    obtain ⟨⟨c0, c1, c2, c3⟩, ⟨f0, f1, f2, f3⟩, ⟨q0, q1, q2, q3⟩⟩ := box4 hza
    obtain ⟨w9, hw9, hz9, HG9, HB9⟩ : ∃ w9, w9 = ((((w5.alloc (.cells #[.int .i64 10, S path] 116)).setCell ⟨w.heap.size, 0, none⟩ (.int .i64 0)).setCell ⟨w.heap.size, 1, none⟩ (.string ⟨#[]⟩)).setCell ⟨w.heap.size, 2, none⟩ (.slice none 0 0)).setCell ⟨w.heap.size, 3, none⟩ (.slice none 0 0) ∧ w9.heap[w.heap.size]? = some (.cells #[.int .i64 0, .string ⟨#[]⟩, .slice none 0 0, .slice none 0 0] 77 (0, 0)) ∧ Hid (w9.heap[w5.heap.size]? = some (.cells #[.int .i64 10, S path] 116 (0, 0))) ∧ Hid (Below w.heap.size w w9) := by
      have hne : w5.heap.size ≠ w.heap.size := by have := HZL.out; omega
      exact ⟨_, rfl, heap_set_cell (heap_set_cell (heap_set_cell (heap_set_cell hza _) _) _) _, Lib.hid ((Below.heap_setCell _ _ _ _ hne).trans ((Below.heap_setCell _ _ _ _ hne).trans ((Below.heap_setCell _ _ _ _ hne).trans ((Below.heap_setCell _ _ _ _ hne).trans HGA.out)))),
        Lib.hid (below_setT (below_setT (below_setT (below_setT (HB5.out.alloc HB5.out.size _) (Nat.le_refl _) _ _) (Nat.le_refl _) _ _) (Nat.le_refl _) _ _) (Nat.le_refl _) _ _)⟩
    clear hza hz5
    go_wp2
    rw [← hw9]
    obtain ⟨⟨x0, x1, x2, x3⟩, -, -⟩ := box4 hz9
    refine bodyPost_ret (v := .tuple #[NodV zNod (.slice none 0 0) (.slice none 0 0), .iface 114 (.pointer (some ⟨w5.heap.size, 0, none⟩))]) (by simp [results, Tryz.results44, go_sem, x0, x1, x2, x3, zNod]) rfl ?_
    exact ⟨_, _, _, _, rfl, ⟨Row.nil _ _, Row.nil _ _⟩, Lib.hid ⟨by simp [Value.ownBlock], by simp [Value.ownBlock]⟩, HB9.out, .inr ⟨by rw [HC.out]; decide, _, rfl, by rw [HC.out]; exact HG9.out⟩⟩
  have hq3 : (n.kind != kind) = false := by rw [bne_eq_false_iff_eq]; exact hkd
  have HC := Lib.hid (show lcd = 0 from HLC.out.trans ((if_neg (by simp)).trans ((if_neg (by simp [HSM.out])).trans ((if_neg (by simp)).trans (if_neg (by simp [hkd]))))))
  clear hkd hn5
  obtain ⟨⟨c0, c1, c2, c3⟩, ⟨f0, f1, f2, f3⟩, ⟨q0, q1, q2, q3⟩⟩ := box4 hz5
  obtain ⟨w9, hw9, hz9, HB9, HN9⟩ : ∃ w9, w9 = (((w5.setCell ⟨w.heap.size, 0, none⟩ (.int .i64 n.kind)).setCell ⟨w.heap.size, 1, none⟩ (S n.data)).setCell ⟨w.heap.size, 2, none⟩ (.slice pa n.parts.length pc)).setCell ⟨w.heap.size, 3, none⟩ (.slice ua n.ents.length uc) ∧ w9.heap[w.heap.size]? = some (.cells #[.int .i64 n.kind, S n.data, .slice pa n.parts.length pc, .slice ua n.ents.length uc] 77 (0, 0)) ∧ Hid (Below w.heap.size w w9) ∧ Hid (NodRow w9 n (.slice pa n.parts.length pc) (.slice ua n.ents.length uc)) :=
    ⟨_, rfl, heap_set_cell (heap_set_cell (heap_set_cell (heap_set_cell hz5 _) _) _) _, Lib.hid (below_setT (below_setT (below_setT (below_setT HB5.out (Nat.le_refl _) _ _) (Nat.le_refl _) _ _) (Nat.le_refl _) _ _) (Nat.le_refl _) _ _),
      Lib.hid (nod_other (nod_other (nod_other (nod_other HN5.out HVZ.out.1 HVZ.out.2 _ _) HVZ.out.1 HVZ.out.2 _ _) HVZ.out.1 HVZ.out.2 _ _) HVZ.out.1 HVZ.out.2 _ _)⟩
  clear hz5
  go_wp2
  rw [← hw9]
  obtain ⟨⟨x0, x1, x2, x3⟩, -, -⟩ := box4 hz9
  refine bodyPost_ret (v := .tuple #[NodV n (.slice pa n.parts.length pc) (.slice ua n.ents.length uc), .nilIface]) (by simp [results, Tryz.results44, go_sem, x0, x1, x2, x3]) rfl ?_
  exact ⟨n, _, _, _, rfl, HN9.out, HVB, HB9.out, .inl ⟨HC.out, rfl, HNE.out.symm⟩⟩
end Go.Proofs.YtkejdbidomlonaaGreatDoor
