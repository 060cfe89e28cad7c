/- The reference's parts and entries of bytes. The reference's reading of a node: plain laws. -/
import Derived.Test.YtaompdnnkfmjhaaGreatDoorJRBuild12
import Derived.Test.YtaompdnnkfmjhaaGreatDoorJPFit11
import Derived.Test.YtaompdnnkfmjhaaGreatDoorJPTText
namespace Go.Proofs.YtaompdnnkfmjhaaGreatDoor
open Go.RowKit

/-- What part() and entry() leave. -/
def RTake {α : Type} (enc : α → Value) (good : α → List UInt8 → Bool → Prop) (s : List UInt8) (w : World) (e : Ending) (w' : World) : Prop :=
  ∃ (x : α) (r : List UInt8) (ok : Bool), e = .returned (.tuple #[enc x, S r, .bool ok]) ∧ good x r ok ∧ r.length ≤ s.length ∧ Below w.heap.size w w'

set_option maxHeartbeats 4000000 in
set_option maxRecDepth 100000 in
theorem rpart_walk (s : List UInt8) (w : World) (hs : s.length ≤ 1100000) :
    Calls Tryz.prog 36 #[S s] w (RTake PrtV (fun p r ok => RdP (partR s) true p r ok) s w) := by
  obtain ⟨w1, hw1, hb1, hz1⟩ : ∃ w1, w1 = w.alloc (.cells #[.string ⟨#[]⟩, .int .i64 0] 78) ∧ Below w.heap.size w w1 ∧ w1.heap[w.heap.size]? = some (.cells #[.string ⟨#[]⟩, .int .i64 0] 78 (0, 0)) :=
    ⟨_, rfl, (Below.refl _ _).alloc (Nat.le_refl _) _, heap_alloc_new _ _⟩
  obtain ⟨⟨z0, z1⟩, ⟨f0, f1⟩, ⟨q0, q1⟩⟩ := box2 hz1
  have HB1 := Lib.hid hb1
  obtain ⟨w2, hw2, hz2, hB2⟩ : ∃ w2, w2 = (w1.setCell ⟨w.heap.size, 0, none⟩ (.string ⟨#[]⟩)).setCell ⟨w.heap.size, 1, none⟩ (.int .i64 0) ∧ w2.heap[w.heap.size]? = some (.cells #[.string ⟨#[]⟩, .int .i64 0] 78 (0, 0)) ∧ Hid (Below w.heap.size w w2) :=
    ⟨_, rfl, heap_set_cell (heap_set_cell hz1 _) _, Lib.hid (below_setT (below_setT hb1 (Nat.le_refl _) _ _) (Nat.le_refl _) _ _)⟩
  clear hb1
  by_cases h32 : s.length < 32
  · have h32' : (s.length : Int) < 32 := by omega
    have HN := Lib.hid (show partR s = none by rw [partR_of, show cutR 32 s = none from if_pos h32])
    clear h32
    go_enter Tryz.func36, Tryz.ntmps36
    go_upto_region 1 with fail
    rw [← hw1]
    clear hw1
    go_wp2
    rw [← hw2]
    obtain ⟨⟨x0, x1⟩, -, -⟩ := box2 hz2
    refine bodyPost_ret (v := .tuple #[PrtV ([], 0), S [], .bool false]) (by simp [results, Tryz.results36, go_sem, x0, x1]) rfl ?_
    exact ⟨([], 0), [], false, rfl, RdP.none HN.out, by simp, hB2.out⟩
  have h32' : ¬ (s.length : Int) < 32 := by omega
  have h32l : (32 : Int) ≤ (s.length : Int) := by omega
  have HC := Lib.hid (show cutR 32 s = some (s.take 32, s.drop 32) from if_neg h32)
  have hdl : (s.drop 32).length = s.length - 32 := List.length_drop
  have hc1 : ({ data := s.toArray } : ByteArray).extract 0 32 = ⟨(s.take 32).toArray⟩ := by rw [ba_cut, cutL_head]
  have hc2 : ({ data := s.toArray } : ByteArray).extract 32 s.length = ⟨(s.drop 32).toArray⟩ := by rw [ba_cut, cutL_tail _ _ _ (Nat.le_refl _)]
  have CT := fun W => r01take_walk (s.drop 32) W
  have hok := takeV_ok (l := s.drop 32)
  have HNO := Lib.hid (fun h : (takeV (s.drop 32)).2.2 ≠ 0 ∨ 4096 < (takeV (s.drop 32)).1 => (show partR s = none by
    rw [partR_of, HC.out]; simp only; rw [show numR 4096 (s.drop 32) = none from if_pos h]))
  have HYES := Lib.hid (fun h : ¬ ((takeV (s.drop 32)).2.2 ≠ 0 ∨ 4096 < (takeV (s.drop 32)).1) => (show partR s = some ((s.take 32, ((takeV (s.drop 32)).1 : Int)), s.drop (32 + (takeV (s.drop 32)).2.1)) by
    rw [partR_of, HC.out]; simp only; rw [show numR 4096 (s.drop 32) = some ((takeV (s.drop 32)).1, (s.drop 32).drop (takeV (s.drop 32)).2.1) from if_neg h, List.drop_drop]))
  generalize takeV (s.drop 32) = tv at *
  obtain ⟨n, k, c⟩ := tv
  simp only at CT hok HNO HYES
  rw [hdl] at hok
  clear h32 hdl
  by_cases hc : c = 0
  case neg =>
    have hc' : (c != 0) = true := by rw [bne_iff_ne]; exact hc
    have HN := Lib.hid (HNO.out (.inl hc))
    clear hc HYES HNO hok
    go_enter Tryz.func36, Tryz.ntmps36
    go_upto_region 1 with fail
    rw [← hw1]
    clear hw1
    go_wp2_with (go_at_call 35; refine (CT _).mono ?_; rintro e w3 ⟨rfl, hw9⟩)
    rw [← hw2]
    obtain ⟨⟨x0, x1⟩, -, -⟩ := box2 hz2
    refine bodyPost_ret (v := .tuple #[PrtV ([], 0), S [], .bool false]) (by simp [results, Tryz.results36, go_sem, x0, x1]) rfl ?_
    exact ⟨([], 0), [], false, rfl, RdP.none HN.out, by simp, hB2.out⟩
  case pos =>
    have hc' : (c != 0) = false := by rw [hc]; rfl
    by_cases h4 : 4096 < n
    · have h4' : (4096 : Int) < (n : Int) := by omega
      have HN := Lib.hid (HNO.out (.inr h4))
      clear hc HYES HNO hok h4
      go_enter Tryz.func36, Tryz.ntmps36
      go_upto_region 1 with fail
      rw [← hw1]
      clear hw1
      go_wp2_with (go_at_call 35; refine (CT _).mono ?_; rintro e w3 ⟨rfl, hw9⟩)
      rw [← hw2]
      obtain ⟨⟨x0, x1⟩, -, -⟩ := box2 hz2
      refine bodyPost_ret (v := .tuple #[PrtV ([], 0), S [], .bool false]) (by simp [results, Tryz.results36, go_sem, x0, x1]) rfl ?_
      exact ⟨([], 0), [], false, rfl, RdP.none HN.out, by simp, hB2.out⟩
    have h4' : ¬ (4096 : Int) < (n : Int) := by omega
    have HY := Lib.hid (HYES.out (fun h => h.elim (fun h => h hc) h4))
    obtain ⟨hk1, hk2, -⟩ := hok hc
    have hs3 : s.length - 32 + 32 = s.length := by omega
    have hc3 : ({ data := s.toArray } : ByteArray).extract (32 + k) s.length = ⟨(s.drop (32 + k)).toArray⟩ := by rw [ba_cut, cutL_tail _ _ _ (Nat.le_refl _)]
    have hwr : IntKind.i64.wrap (32 + (k : Int)) = 32 + (k : Int) := by rw [IntKind.wrap_i64]; omega
    have hr1 : 32 + (k : Int) ≤ (s.length : Int) := by omega
    have hr0 : 0 ≤ 32 + (k : Int) := by omega
    have htn : (32 + (k : Int)).toNat = 32 + k := by omega
    have hwn : IntKind.i64.wrap (n : Int) = (n : Int) := by rw [IntKind.wrap_i64]; omega
    have hdl2 : (s.drop (32 + k)).length ≤ s.length := by rw [List.length_drop]; omega
    have HD2 := Lib.hid hdl2
    clear hok HYES HNO h4 hk1 hk2 hs3 hdl2
    obtain ⟨w5, hw5, hz5, hB5⟩ : ∃ w5 : World, w5 = { w1 with drawn := w1.drawn + 1 } ∧ w5.heap[w.heap.size]? = some (.cells #[.string ⟨#[]⟩, .int .i64 0] 78 (0, 0)) ∧ Hid (Below w.heap.size w w5) :=
      ⟨_, rfl, hz1, Lib.hid (below_chain HB1.out ⟨rfl, rfl, rfl, Nat.le_refl _, fun _ _ => rfl⟩ (Below.size HB1.out))⟩
    obtain ⟨w6, hw6, hz6, hB6⟩ : ∃ w6, w6 = (w5.setCell ⟨w.heap.size, 0, none⟩ (S (s.take 32))).setCell ⟨w.heap.size, 1, none⟩ (.int .i64 (n : Int)) ∧ w6.heap[w.heap.size]? = some (.cells #[S (s.take 32), .int .i64 (n : Int)] 78 (0, 0)) ∧ Hid (Below w.heap.size w w6) :=
      ⟨_, rfl, heap_set_cell (heap_set_cell hz5 _) _, Lib.hid (below_setT (below_setT hB5.out (Nat.le_refl _) _ _) (Nat.le_refl _) _ _)⟩
    go_enter Tryz.func36, Tryz.ntmps36
    go_upto_region 1 with fail
    rw [← hw1]
    clear hw1
    go_upto_region 6 with (go_at_call 35; refine (CT _).mono ?_; rintro e w3 ⟨rfl, hw9⟩)
    (refine wp_region_held (S := fun _ => True) (by kernel_rfl) ?_)
    rw [← hw5]
    clear hw5
    (refine wpAnyH_take (i := 0) (v := ?_) rfl (by kernel_rfl) (by kernel_rfl) (by kernel_rfl) (fun _ _ _ h => h) (Or.inl ⟨by rfl, ?_⟩) (by exact trivial) ?_; rotate_left; (intro w9 hS9; skip; go_simp; try with_reducible rfl))
    (refine wpAnyH_take (i := 1) (v := ?_) rfl (by kernel_rfl) (by kernel_rfl) (by kernel_rfl) (fun _ _ _ h => h) (Or.inl ⟨by rfl, ?_⟩) (by exact trivial) ?_; rotate_left; (intro w9 hS9; skip; go_simp; try with_reducible rfl))
    (refine wpAnyH_take (i := 2) (v := ?_) rfl (by kernel_rfl) (by kernel_rfl) (by kernel_rfl) (fun _ _ _ h => h) (Or.inl ⟨by rfl, ?_⟩) (by exact trivial) ?_; rotate_left; (intro w9 hS9; skip; go_simp; try with_reducible rfl))
    (refine wpAnyH_take (i := 3) (v := ?_) rfl (by kernel_rfl) (by kernel_rfl) (by kernel_rfl) (fun _ _ _ h => h) (Or.inl ⟨by rfl, ?_⟩) (by exact trivial) ?_; rotate_left; (intro w9 hS9; skip; go_simp; try with_reducible rfl))
    (refine wpAnyH_take (i := 4) (v := ?_) rfl (by kernel_rfl) (by kernel_rfl) (by kernel_rfl) (fun _ _ _ h => h) (Or.inl ⟨by rfl, ?_⟩) (by exact trivial) ?_; rotate_left; (intro w9 hS9; skip; go_simp; try with_reducible rfl))
    (refine wpAnyH_take (i := 5) (v := ?_) rfl (by kernel_rfl) (by kernel_rfl) (by kernel_rfl) (fun _ _ _ h => h) (Or.inl ⟨by rfl, ?_⟩) (by exact trivial) ?_; rotate_left; (intro w9 hS9; skip; go_simp; try with_reducible rfl))
    (refine wpAnyH_take (i := 6) (v := ?_) rfl (by kernel_rfl) (by kernel_rfl) (by kernel_rfl) (fun _ _ _ h => h) (Or.inl ⟨by rfl, ?_⟩) (by exact trivial) ?_; rotate_left; (intro w9 hS9; skip; go_simp; try with_reducible rfl))
    (refine wpAnyH_take (i := 7) (v := ?_) rfl (by kernel_rfl) (by kernel_rfl) (by kernel_rfl) (fun _ _ _ h => h) (Or.inl ⟨by rfl, ?_⟩) (by exact trivial) ?_; rotate_left; (intro w9 hS9; skip; go_simp; try with_reducible rfl))
    (refine wpAnyH_take (i := 8) (v := ?_) rfl (by kernel_rfl) (by kernel_rfl) (by kernel_rfl) (fun _ _ _ h => h) (Or.inl ⟨by rfl, ?_⟩) (by exact trivial) ?_; rotate_left; (intro w9 hS9; skip; go_simp; try with_reducible rfl))
    obtain ⟨⟨c0, c1⟩, ⟨d0, d1⟩, ⟨e0, e1⟩⟩ := box2 hz5
    (refine wpAnyH_one (i := 9) (by kernel_rfl) rfl (fun K hK => ?_); go_simp; refine hK _ _ (trivial) ?_; clear hK K)
    (refine wpAnyH_one (i := 10) (by kernel_rfl) rfl (fun K hK => ?_); go_simp; refine hK _ _ (trivial) ?_; clear hK K)
    (refine wpAnyH_one (i := 11) (by kernel_rfl) rfl (fun K hK => ?_); go_simp; refine hK _ _ (trivial) ?_; clear hK K)
    (refine wpAnyH_done (by kernel_rfl) ?_ _)
    rw [← hw6]
    obtain ⟨⟨x0, x1⟩, -, -⟩ := box2 hz6
    go_wp2
    refine bodyPost_ret (v := .tuple #[PrtV (s.take 32, (n : Int)), S (s.drop (32 + k)), .bool true]) (by simp [results, Tryz.results36, go_sem, x0, x1]) rfl ?_
    exact ⟨(s.take 32, (n : Int)), s.drop (32 + k), true, rfl, RdP.some HY.out, HD2.out, hB6.out⟩

/-- What entry() says of what the bytes begin with. -/
def REntP (s : List UInt8) (x : Ent) (r : List UInt8) (ok : Bool) : Prop :=
  (ok = true → entR s = some (x, r) ∧ x.2.1 < 8) ∧ (ok = false → ∀ e t, entR s = some (e, t) → 8 ≤ e.2.1)
theorem REntP.none {s : List UInt8} {x : Ent} {r : List UInt8} (h : entR s = Option.none) : REntP s x r false :=
  ⟨fun h => (by cases h), fun _ e t h1 => (by rw [h] at h1; cases h1)⟩
theorem REntP.some {s t r k : List UInt8} {c : UInt8} (h : entR s = Option.some ((t, (kindB c : Int), execB c, k), r)) :
    REntP s (t, (c.toNat : Int) % 4, decide ((4 : Int) ≤ (c.toNat : Int)), k) r (decide ((c.toNat : Int) < 8)) := by
  refine ⟨fun h8 => ?_, fun h8 e u h1 => ?_⟩
  · have h8 := of_decide_eq_true h8
    rw [h]
    have e1 : (kindB c : Int) = (c.toNat : Int) % 4 := by unfold kindB; omega
    have e2 : execB c = decide ((4 : Int) ≤ (c.toNat : Int)) := by unfold execB; rw [Bool.eq_iff_iff, beq_iff_eq, decide_eq_true_iff]; omega
    rw [e1, e2]
    exact ⟨rfl, by simp only; omega⟩
  · have h8 := of_decide_eq_false h8
    rw [h] at h1
    cases h1
    have e1 : 8 ≤ kindB c := by unfold kindB; omega
    simp only
    omega

set_option maxHeartbeats 4000000 in
set_option maxRecDepth 100000 in
theorem rentry_walk (s : List UInt8) (w : World) (hs : s.length ≤ 1100000) :
    Calls Tryz.prog 37 #[S s] w (RTake EntV (REntP s) s w) := by
  obtain ⟨w1, hw1, hb1, hz1⟩ : ∃ w1, w1 = w.alloc (.cells #[.string ⟨#[]⟩, .int .i64 0, .bool false, .string ⟨#[]⟩] 82) ∧ Below w.heap.size w w1 ∧ w1.heap[w.heap.size]? = some (.cells #[.string ⟨#[]⟩, .int .i64 0, .bool false, .string ⟨#[]⟩] 82 (0, 0)) :=
    ⟨_, rfl, (Below.refl _ _).alloc (Nat.le_refl _) _, heap_alloc_new _ _⟩
  obtain ⟨⟨z0, z1, z2, z3⟩, ⟨f0, f1, f2, f3⟩, ⟨q0, q1, q2, q3⟩⟩ := box4 hz1
  have hsz : w.heap.size < w1.heap.size := heap_lt hz1
  have HB1 := Lib.hid hb1
  have HZ1 := Lib.hid hz1
  obtain ⟨w2, hw2, hz2, hB2⟩ : ∃ w2, w2 = (((w1.setCell ⟨w.heap.size, 0, none⟩ (.string ⟨#[]⟩)).setCell ⟨w.heap.size, 1, none⟩ (.int .i64 0)).setCell ⟨w.heap.size, 2, none⟩ (.bool false)).setCell ⟨w.heap.size, 3, none⟩ (.string ⟨#[]⟩) ∧ w2.heap[w.heap.size]? = some (.cells #[.string ⟨#[]⟩, .int .i64 0, .bool false, .string ⟨#[]⟩] 82 (0, 0)) ∧ Hid (Below w.heap.size w w2) :=
    ⟨_, rfl, heap_set_cell (heap_set_cell (heap_set_cell (heap_set_cell hz1 _) _) _) _, Lib.hid (below_setT (below_setT (below_setT (below_setT hb1 (Nat.le_refl _) _ _) (Nat.le_refl _) _ _) (Nat.le_refl _) _ _) (Nat.le_refl _) _ _)⟩
  clear hb1 hz1
  have CT := fun W => r01taketext_walk s W hs
  have hok := takeText_ok (l := s)
  have HTX := Lib.hid (show textR s = if (takeText s).2.2 ≠ 0 then none else some ((takeText s).1, s.drop (takeText s).2.1) from rfl)
  generalize takeText s = tv at *
  obtain ⟨t, k, c⟩ := tv
  simp only at CT hok HTX
  by_cases hc : c = 0
  case neg =>
    have hc' : (c != 0) = true := by rw [bne_iff_ne]; exact hc
    have HN := Lib.hid (show entR s = none by rw [entR_of, HTX.out, if_pos hc])
    clear hc hok HTX
    go_enter Tryz.func37, Tryz.ntmps37
    go_upto_region 1 with fail
    rw [← hw1]
    clear hw1
    go_wp2_with (go_at_call 61; refine (CT _).mono ?_; rintro e w3 ⟨rfl, hw9⟩)
    rw [← hw2]
    obtain ⟨⟨x0, x1, x2, x3⟩, -, -⟩ := box4 hz2
    refine bodyPost_ret (v := .tuple #[EntV ([], 0, false, []), S [], .bool false]) (by simp [results, Tryz.results37, go_sem, x0, x1, x2, x3]) rfl ?_
    exact ⟨([], 0, false, []), [], false, rfl, REntP.none HN.out, by simp, hB2.out⟩
  case pos =>
    have hc' : (c != 0) = false := by rw [hc]; rfl
    have hkl := (hok hc).1
    have HT2 := Lib.hid (HTX.out.trans (if_neg (fun h => h hc)))
    clear hok HTX
    by_cases h33 : s.length - k < 33
    · have h33' : (s.length : Int) - (k : Int) < 33 := by omega
      have hdl : (s.drop k).length = s.length - k := List.length_drop
      have HN := Lib.hid (show entR s = none by
        rw [entR_of, HT2.out]
        simp only
        cases hd : s.drop k with
        | nil => rfl
        | cons a s2 =>
          rw [hd, List.length_cons] at hdl
          simp only
          rw [show cutR 32 s2 = none from if_pos (by omega)])
      clear hc HT2 hdl h33
      go_enter Tryz.func37, Tryz.ntmps37
      go_upto_region 1 with fail
      rw [← hw1]
      clear hw1
      go_wp2_with (go_at_call 61; refine (CT _).mono ?_; rintro e w3 ⟨rfl, hw9⟩)
      rw [← hw2]
      obtain ⟨⟨x0, x1, x2, x3⟩, -, -⟩ := box4 hz2
      refine bodyPost_ret (v := .tuple #[EntV ([], 0, false, []), S [], .bool false]) (by simp [results, Tryz.results37, go_sem, x0, x1, x2, x3]) rfl ?_
      exact ⟨([], 0, false, []), [], false, rfl, REntP.none HN.out, by simp, hB2.out⟩
    have h33' : ¬ (s.length : Int) - (k : Int) < 33 := by omega
    have hkn : k < s.length := by omega
    have hki : (k : Int) < (s.length : Int) := by omega
    obtain ⟨b, hb⟩ : ∃ b, b = s[k] := ⟨_, rfl⟩
    have hbc : (({ data := s.toArray } : ByteArray)[k]'hkn).toNat = b.toNat := by rw [hb]; rfl
    have hb8 : b.toNat < 256 := b.toNat_lt
    have HY := Lib.hid (show entR s = some ((t, (kindB b : Int), execB b, cutL s (k + 1) (k + 1 + 32)), s.drop (k + 1 + 32)) by
      rw [entR_of, HT2.out]
      simp only
      rw [List.drop_eq_getElem_cons hkn, ← hb]
      simp only
      rw [show cutR 32 (s.drop (k + 1)) = some ((s.drop (k + 1)).take 32, (s.drop (k + 1)).drop 32) from if_neg (by rw [List.length_drop]; omega)]
      simp only
      rw [List.drop_drop]
      simp only [cutL, List.drop_take, Nat.add_sub_cancel_left])
    have hdl2 := Lib.hid (show (s.drop (k + 1 + 32)).length ≤ s.length by rw [List.length_drop]; omega)
    have hr0 : (k : Int) + 1 + 32 ≤ (s.length : Int) := by omega
    have hr1 : 0 ≤ (k : Int) + 1 + 32 := by omega
    have htn : ((k : Int) + 1 + 32).toNat = k + 1 + 32 := by omega
    have hc3 : ({ data := s.toArray } : ByteArray).extract (k + 1 + 32) s.length = ⟨(s.drop (k + 1 + 32)).toArray⟩ := by rw [ba_cut, cutL_tail _ _ _ (Nat.le_refl _)]
    have hc4 : ({ data := s.toArray } : ByteArray).extract (k + 1) (k + 1 + 32) = ⟨(cutL s (k + 1) (k + 1 + 32)).toArray⟩ := ba_cut _ _ _
    clear hc HT2 h33 hb
    obtain ⟨km, hkm⟩ : ∃ km : Int, km = (b.toNat : Int) % 4 := ⟨_, rfl⟩
    obtain ⟨xm, hxm⟩ : ∃ xm : Bool, xm = decide ((4 : Int) ≤ (b.toNat : Int)) := ⟨_, rfl⟩
    have HKM := Lib.hid hkm
    have HXM := Lib.hid hxm
    obtain ⟨w4, hw4, hz4, hx4, hB4⟩ : ∃ w4 : World, w4 = w1.alloc (.cells #[S t, .int .i64 ((b.toNat : Int) % 4), .bool (decide ((4 : Int) ≤ (b.toNat : Int))), S (cutL s (k + 1) (k + 1 + 32))] 82) ∧ w4.heap[w.heap.size]? = some (.cells #[.string ⟨#[]⟩, .int .i64 0, .bool false, .string ⟨#[]⟩] 82 (0, 0)) ∧ w4.heap[w1.heap.size]? = some (.cells #[S t, .int .i64 km, .bool xm, S (cutL s (k + 1) (k + 1 + 32))] 82 (0, 0)) ∧ Below w.heap.size w w4 :=
      ⟨_, rfl, (((Below.refl _ _).alloc (Nat.le_refl _) _).block _ hsz).trans HZ1.out, by rw [hkm, hxm]; exact heap_alloc_new _ _, HB1.out.alloc HB1.out.size _⟩
    obtain ⟨w5, hw5, hz5, hx5, hB5⟩ : ∃ w5 : World, w5 = { w4 with drawn := w4.drawn + 1 } ∧ w5.heap[w.heap.size]? = some (.cells #[.string ⟨#[]⟩, .int .i64 0, .bool false, .string ⟨#[]⟩] 82 (0, 0)) ∧ w5.heap[w1.heap.size]? = some (.cells #[S t, .int .i64 km, .bool xm, S (cutL s (k + 1) (k + 1 + 32))] 82 (0, 0)) ∧ Below w.heap.size w w5 :=
      ⟨_, rfl, hz4, hx4, below_chain hB4 ⟨rfl, rfl, rfl, Nat.le_refl _, fun _ _ => rfl⟩ hB4.size⟩
    obtain ⟨w6, hw6, hz6, hB6⟩ : ∃ w6, w6 = (((w5.setCell ⟨w.heap.size, 0, none⟩ (S t)).setCell ⟨w.heap.size, 1, none⟩ (.int .i64 km)).setCell ⟨w.heap.size, 2, none⟩ (.bool xm)).setCell ⟨w.heap.size, 3, none⟩ (S (cutL s (k + 1) (k + 1 + 32))) ∧ w6.heap[w.heap.size]? = some (.cells #[S t, .int .i64 km, .bool xm, S (cutL s (k + 1) (k + 1 + 32))] 82 (0, 0)) ∧ Hid (Below w.heap.size w w6) :=
      ⟨_, rfl, heap_set_cell (heap_set_cell (heap_set_cell (heap_set_cell hz5 _) _) _) _, Lib.hid (below_setT (below_setT (below_setT (below_setT hB5 (Nat.le_refl _) _ _) (Nat.le_refl _) _ _) (Nat.le_refl _) _ _) (Nat.le_refl _) _ _)⟩
    have HHZ5 := Lib.hid hz5
    clear hz4 hx4 hB4 hB5 hkm hxm
    go_enter Tryz.func37, Tryz.ntmps37
    go_upto_region 1 with fail
    rw [← hw1]
    clear hw1
    go_upto_region 6 with (go_at_call 61; refine (CT _).mono ?_; rintro e w3 ⟨rfl, hw9⟩)
    rw [← hw4]
    clear hw4
    (refine wp_region_held (S := fun w' => w'.heap[w1.heap.size]? = some (.cells #[S t, .int .i64 km, .bool xm, S (cutL s (k + 1) (k + 1 + 32))] 82 (0, 0))) (by kernel_rfl) ?_)
    rw [← hw5]
    clear hw5
    clear z0 z1 z2 z3 f0 f1 f2 f3 q0 q1 q2 q3
    have hwa : IntKind.i64.wrap ((k : Int) + 1) = (k : Int) + 1 := by rw [IntKind.wrap_i64]; omega
    have hwb : IntKind.i64.wrap ((k : Int) + 1 + 32) = (k : Int) + 1 + 32 := by rw [IntKind.wrap_i64]; omega
    (refine wpAnyH_take (i := 0) (v := ?_) rfl (by kernel_rfl) (by kernel_rfl) (by kernel_rfl) (fun _ _ _ h => h) (Or.inl ⟨by rfl, ?_⟩) (by exact hx5) ?_; rotate_left; (intro w9 hS9; (obtain ⟨⟨x0, x1, x2, x3⟩, -, -⟩ := box4 hS9); go_simp; try with_reducible rfl))
    (refine wpAnyH_take (i := 1) (v := ?_) rfl (by kernel_rfl) (by kernel_rfl) (by kernel_rfl) (fun _ _ _ h => h) (Or.inl ⟨by rfl, ?_⟩) (by exact hx5) ?_; rotate_left; (intro w9 hS9; skip; go_simp; try with_reducible rfl))
    (refine wpAnyH_take (i := 2) (v := ?_) rfl (by kernel_rfl) (by kernel_rfl) (by kernel_rfl) (fun _ _ _ h => h) (Or.inl ⟨by rfl, ?_⟩) (by exact hx5) ?_; rotate_left; (intro w9 hS9; skip; go_simp; try with_reducible rfl))
    (refine wpAnyH_take (i := 3) (v := ?_) rfl (by kernel_rfl) (by kernel_rfl) (by kernel_rfl) (fun _ _ _ h => h) (Or.inl ⟨by rfl, ?_⟩) (by exact hx5) ?_; rotate_left; (intro w9 hS9; skip; go_simp; try with_reducible rfl))
    (refine wpAnyH_take (i := 4) (v := ?_) rfl (by kernel_rfl) (by kernel_rfl) (by kernel_rfl) (fun _ _ _ h => h) (Or.inl ⟨by rfl, ?_⟩) (by exact hx5) ?_; rotate_left; (intro w9 hS9; skip; go_simp; try with_reducible rfl))
    (refine wpAnyH_take (i := 5) (v := ?_) rfl (by kernel_rfl) (by kernel_rfl) (by kernel_rfl) (fun _ _ _ h => h) (Or.inl ⟨by rfl, ?_⟩) (by exact hx5) ?_; rotate_left; (intro w9 hS9; skip; go_simp; try with_reducible rfl))
    (refine wpAnyH_take (i := 6) (v := ?_) rfl (by kernel_rfl) (by kernel_rfl) (by kernel_rfl) (fun _ _ _ h => h) (Or.inl ⟨by rfl, ?_⟩) (by exact hx5) ?_; rotate_left; (intro w9 hS9; skip; go_simp; try with_reducible rfl))
    (refine wpAnyH_take (i := 7) (v := ?_) rfl (by kernel_rfl) (by kernel_rfl) (by kernel_rfl) (fun _ _ _ h => h) (Or.inl ⟨by rfl, ?_⟩) (by exact hx5) ?_; rotate_left; (intro w9 hS9; skip; go_simp; try with_reducible rfl))
    obtain ⟨⟨c0, c1, c2, c3⟩, ⟨d0, d1, d2, d3⟩, ⟨e0, e1, e2, e3⟩⟩ := box4 HHZ5.out
    have hne : w1.heap.size ≠ w.heap.size := by omega
    (refine wpAnyH_one (i := 8) (by kernel_rfl) rfl (fun K hK => ?_); go_simp; refine hK _ _ ((Below.heap_setCell _ _ _ _ hne).trans ((Below.heap_setCell _ _ _ _ hne).trans ((Below.heap_setCell _ _ _ _ hne).trans ((Below.heap_setCell _ _ _ _ hne).trans hx5)))) ?_; clear hK K)
    (refine wpAnyH_one (i := 9) (by kernel_rfl) rfl (fun K hK => ?_); go_simp; refine hK _ _ ((Below.heap_setCell _ _ _ _ hne).trans ((Below.heap_setCell _ _ _ _ hne).trans ((Below.heap_setCell _ _ _ _ hne).trans ((Below.heap_setCell _ _ _ _ hne).trans hx5)))) ?_; clear hK K)
    (refine wpAnyH_one (i := 10) (by kernel_rfl) rfl (fun K hK => ?_); go_simp; refine hK _ _ ((Below.heap_setCell _ _ _ _ hne).trans ((Below.heap_setCell _ _ _ _ hne).trans ((Below.heap_setCell _ _ _ _ hne).trans ((Below.heap_setCell _ _ _ _ hne).trans hx5)))) ?_; clear hK K)
    (refine wpAnyH_done (by kernel_rfl) ?_ _)
    rw [← hw6]
    clear c0 c1 c2 c3 d0 d1 d2 d3 e0 e1 e2 e3
    obtain ⟨⟨x0, x1, x2, x3⟩, -, -⟩ := box4 hz6
    go_wp2
    refine bodyPost_ret (v := .tuple #[EntV (t, km, xm, cutL s (k + 1) (k + 1 + 32)), S (s.drop (k + 1 + 32)), .bool (decide ((b.toNat : Int) < 8))]) (by simp [results, Tryz.results37, go_sem, x0, x1, x2, x3]) rfl ?_
    refine ⟨(t, km, xm, cutL s (k + 1) (k + 1 + 32)), s.drop (k + 1 + 32), decide ((b.toNat : Int) < 8), rfl, ?_, hdl2.out, hB6.out⟩
    rw [HKM.out, HXM.out]
    exact REntP.some HY.out
end Go.Proofs.YtaompdnnkfmjhaaGreatDoor

namespace Go.Proofs.YtaompdnnkfmjhaaGreatDoor
open Go.RowKit

/-- An entry as the reference reads it: a byte of eight and more is none. -/
def entQ (s : List UInt8) : Option (Ent × List UInt8) := match entR s with | none => none | some (e, t) => if e.2.1 < 8 then some (e, t) else none
theorem rentp_rd {s : List UInt8} {x : Ent} {r : List UInt8} {ok : Bool} (h : REntP s x r ok) : RdP (entQ s) true x r ok := by
  refine ⟨fun h => (by cases h), fun _ => ?_⟩
  cases ok with
  | true =>
    obtain ⟨h1, h2⟩ := h.1 rfl
    have h3 : entQ s = some (x, r) := by unfold entQ; rw [h1]; simp only; rw [if_pos h2]
    rw [h3]
    exact ⟨rfl, rfl, rfl⟩
  | false =>
    have h3 : entQ s = none := by
      unfold entQ
      cases hq : entR s with
      | none => rfl
      | some q =>
        obtain ⟨e, t⟩ := q
        have := h.2 rfl e t hq
        simp only
        rw [if_neg (by omega)]
    rw [h3]
theorem entQ_some {s r : List UInt8} {e : Ent} (h : entQ s = some (e, r)) : entR s = some (e, r) := by
  unfold entQ at h
  cases hq : entR s with
  | none => rw [hq] at h; cases h
  | some q =>
    obtain ⟨e', t⟩ := q
    rw [hq] at h
    simp only at h
    split at h
    · exact h
    · cases h
theorem manyQ_some : ∀ (n : Nat) (s r : List UInt8) (l : List Ent), manyR entQ n s = some (l, r) → manyR entR n s = some (l, r)
  | 0, s, r, l, h => h
  | n + 1, s, r, l, h => by
    unfold manyR at h ⊢
    cases h1 : entQ s with
    | none => rw [h1] at h; cases h
    | some q =>
      obtain ⟨x, s1⟩ := q
      rw [h1] at h
      rw [entQ_some h1]
      simp only at h ⊢
      cases h2 : manyR entQ n s1 with
      | none => rw [h2] at h; cases h
      | some q =>
        obtain ⟨l2, s2⟩ := q
        rw [h2] at h
        rw [manyQ_some n s1 s2 l2 h2]
        exact h
theorem entOk_no {e : Ent} (h : ¬ e.2.1 < 8) : entOk e = false := by
  unfold entOk
  rw [Bool.and_eq_false_iff]
  left
  rw [Bool.or_eq_false_iff, Bool.and_eq_false_iff, beq_eq_false_iff_ne, beq_eq_false_iff_ne]
  exact ⟨by omega, .inl (by omega)⟩
theorem manyQ_none : ∀ (n : Nat) (s r : List UInt8) (l : List Ent), manyR entQ n s = none → manyR entR n s = some (l, r) → ∃ e ∈ l, entOk e = false
  | 0, s, r, l, h, _ => by cases h
  | n + 1, s, r, l, h, hr => by
    unfold manyR at h hr
    cases h1 : entR s with
    | none => rw [h1] at hr; cases hr
    | some q =>
      obtain ⟨x, s1⟩ := q
      rw [h1] at hr
      simp only at hr
      cases h2 : manyR entR n s1 with
      | none => rw [h2] at hr; cases hr
      | some q =>
        obtain ⟨l2, s2⟩ := q
        rw [h2] at hr
        simp only [Option.some.injEq, Prod.mk.injEq] at hr
        obtain ⟨rfl, rfl⟩ := hr
        by_cases h8 : x.2.1 < 8
        · have h3 : entQ s = some (x, s1) := by unfold entQ; rw [h1]; simp only; rw [if_pos h8]
          rw [h3] at h
          simp only at h
          cases h4 : manyR entQ n s1 with
          | none =>
            obtain ⟨e, he, hk⟩ := manyQ_none n s1 s2 l2 h4 h2
            exact ⟨e, List.mem_cons_of_mem _ he, hk⟩
          | some q => rw [h4] at h; cases h
        · exact ⟨x, List.mem_cons_self .., entOk_no h8⟩

/-! What Read answers. -/
theorem rd_none {s : List UInt8} (h : parseN s = none) : readN s = (zNod, 2) := by unfold readN; rw [h]
theorem rd_unfit {s r : List UInt8} {n : Nod} (h : parseN s = some (n, r)) (hf : fitN n = false) : readN s = (zNod, 2) := by
  unfold readN; rw [h]; simp only; rw [if_neg (by rw [hf]; simp)]
theorem rd_yes {s r : List UInt8} {n : Nod} (h : parseN s = some (n, r)) (hf : fitN n = true) (hw : writeN n = s) : readN s = (n, 0) := by
  unfold readN; rw [h]; simp only; rw [if_pos ⟨(readN_some h (fitN_iff.1 hf)).2 hw, hf⟩]
theorem rd_no {s r : List UInt8} {n : Nod} (h : parseN s = some (n, r)) (hw : fitN n = false ∨ writeN n ≠ s) : readN s = (zNod, 2) := by
  rcases hw with hf | hw
  · exact rd_unfit h hf
  · by_cases hf : fitN n = true
    · unfold readN; rw [h]; simp only; rw [if_neg (fun e => hw ((readN_some h (fitN_iff.1 hf)).1 e.1))]
    · exact rd_unfit h (by simpa using hf)
/-- What Read knows of a node ahead of its last test. -/
def RdEnd (s : List UInt8) (n : Nod) : Prop :=
  (fitN n = true → writeN n = s → readN s = (n, 0)) ∧ (fitN n = false → readN s = (zNod, 2)) ∧ (writeN n ≠ s → readN s = (zNod, 2))
theorem RdEnd.of {s r : List UInt8} {n : Nod} (h : parseN s = some (n, r)) : RdEnd s n := ⟨rd_yes h, fun hf => rd_no h (.inl hf), fun hw => rd_no h (.inr hw)⟩
theorem RdEnd.odd {s : List UInt8} {n : Nod} (h : parseN s = none) (hf : fitN n = false) : RdEnd s n :=
  ⟨fun e => absurd e (by rw [hf]; simp), fun _ => rd_none h, fun _ => rd_none h⟩
theorem fitN_odd {k : Nat} {d : List UInt8} {ps : List Prt} {es : List Ent} (h1 : k ≠ 1) (h2 : k ≠ 2) (h3 : k ≠ 3) : fitN ⟨k, d, ps, es⟩ = false :=
  fitN_no (by rintro (⟨h, _⟩ | ⟨h, _⟩ | ⟨h, _⟩) <;> simp only at h <;> omega)
theorem end_one {c : UInt8} {t : List UInt8} (h : c.toNat = 1) : RdEnd (c :: t) ⟨1, t, [], []⟩ := RdEnd.of (r := []) (by rw [parseN_cons, if_pos h])
theorem end_two {c : UInt8} {t s1 sk : List UInt8} {n k : Nat} {l : List Prt} (h : c.toNat = 2) (hn : numR 1024 t = some (n, s1)) (hs : SevP partR n s1 true k l sk true) (hk : n ≤ k) : RdEnd (c :: t) ⟨2, [], l, []⟩ := by
  have h1 := (SevP.end_ (s := t) (ok := true) (ok1 := true) ⟨fun h => (by cases h), fun _ => by rw [hn]; exact ⟨rfl, rfl, rfl⟩⟩ hs (.inr hk)).2 rfl
  have h2 : listR partR t = some (l, sk) := by
    cases hq : listR partR t with
    | none => rw [hq] at h1; cases h1
    | some q => obtain ⟨a, b⟩ := q; rw [hq] at h1; obtain ⟨_, rfl, rfl⟩ := h1; rfl
  exact RdEnd.of (r := sk) (by rw [parseN_cons, if_neg (by omega), if_pos h, h2])
theorem no_two {c : UInt8} {t s1 sk : List UInt8} {n k : Nat} {l : List Prt} (h : c.toNat = 2) (hn : numR 1024 t = some (n, s1)) (hs : SevP partR n s1 true k l sk false) : readN (c :: t) = (zNod, 2) := by
  have h1 := hs.2 rfl
  rw [if_neg (by simp)] at h1
  refine rd_none ?_
  rw [parseN_cons, if_neg (by omega), if_pos h]
  unfold listR
  rw [hn]
  simp only
  rw [h1]
theorem no_num {c : UInt8} {t : List UInt8} (h : c.toNat ≠ 1) (hn : numR 1024 t = none) : readN (c :: t) = (zNod, 2) := by
  refine rd_none ?_
  rw [parseN_cons, if_neg h, show listR partR t = none by unfold listR; rw [hn], show listR entR t = none by unfold listR; rw [hn]]
  simp only
  split
  · rfl
  · split <;> rfl
theorem end_ent {c : UInt8} {t s1 sk : List UInt8} {n k : Nat} {l : List Ent} (h1 : c.toNat ≠ 1) (h2 : c.toNat ≠ 2) (hn : numR 1024 t = some (n, s1)) (hs : SevP entQ n s1 true k l sk true) (hk : n ≤ k) : RdEnd (c :: t) ⟨(c.toNat : Int), [], [], l⟩ := by
  by_cases h3 : c.toNat = 3
  · have e1 := hs.2 rfl
    rw [if_pos rfl, show n - k = 0 by omega] at e1
    have e2 : manyR entQ n s1 = some (l, sk) := by rw [e1]; simp [appR, manyR]
    have e3 := manyQ_some _ _ _ _ e2
    refine RdEnd.of (r := sk) ?_
    rw [parseN_cons, if_neg h1, if_neg h2, if_pos h3, h3]
    unfold listR
    rw [hn]
    simp only
    rw [e3]
    rfl
  · exact RdEnd.odd (by rw [parseN_cons, if_neg h1, if_neg h2, if_neg h3]) (fitN_odd h1 h2 h3)
theorem no_ent {c : UInt8} {t s1 sk : List UInt8} {n k : Nat} {l : List Ent} (h1 : c.toNat ≠ 1) (h2 : c.toNat ≠ 2) (hn : numR 1024 t = some (n, s1)) (hs : SevP entQ n s1 true k l sk false) : readN (c :: t) = (zNod, 2) := by
  by_cases h3 : c.toNat = 3
  · have e1 := hs.2 rfl
    rw [if_neg (by simp)] at e1
    have hl : listR entR t = manyR entR n s1 := by unfold listR; rw [hn]
    cases hq : manyR entR n s1 with
    | none => exact rd_none (by rw [parseN_cons, if_neg h1, if_neg h2, if_pos h3, hl, hq])
    | some q =>
      obtain ⟨L, r⟩ := q
      refine rd_unfit (r := r) (n := ⟨3, [], [], L⟩) (by rw [parseN_cons, if_neg h1, if_neg h2, if_pos h3, hl, hq]) ?_
      obtain ⟨e, he, hk⟩ := manyQ_none _ _ _ _ e1 hq
      refine fitN_no ?_
      rintro (⟨h, _⟩ | ⟨h, _⟩ | ⟨_, _, _, hd⟩)
      · simp at h
      · simp at h
      · have := hd.ok e he
        rw [hk] at this
        cases this
  · exact rd_none (by rw [parseN_cons, if_neg h1, if_neg h2, if_neg h3])
theorem end_small {s1 sk : List UInt8} {n k : Nat} {l : List Ent} (hs : SevP entQ n s1 true k l sk true) (hk : n ≤ k) : ∀ e ∈ l, e.1.length ≤ s1.length := by
  have e1 := hs.2 rfl
  rw [if_pos rfl, show n - k = 0 by omega] at e1
  have e2 : manyR entQ n s1 = some (l, sk) := by rw [e1]; simp [appR, manyR]
  exact manyE_small _ _ _ _ (manyQ_some _ _ _ _ e2)
end Go.Proofs.YtaompdnnkfmjhaaGreatDoor
