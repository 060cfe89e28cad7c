/- What Write does, if the power is there. -/
import Derived.Test.YthjoaoakadaieaaMAct
import Derived.Test.YthjoaoakadaieaaCloOp
import Derived.Maps.AppendAt
import Derived.Deep.RegionLaw
namespace Go.Proofs.Ythjoaoakadaieaa
open Go.RowKit

theorem own_mono {w : World} {B B' e K n : Nat} {v : Value} {xs : List Value} (h : w.ownsRow B' e K v n xs) (hB : B ≤ B') : w.ownsRow B e K v n xs := by
  obtain ⟨h1, h2⟩ := h
  refine ⟨h1, ?_⟩
  rcases h2 with h2 | ⟨g, cap, cur, hv, hb, h3⟩
  · exact .inl h2
  · exact .inr ⟨g, cap, cur, hv, by omega, h3⟩
theorem box_kept {w W : World} {n k : Nat} {o : Obj} (hb : Below n w W) (hk : k < n) (h : w.heap[k]? = some o) : W.heap[k]? = some o := (hb.block k hk).trans h
theorem op2_one (k : Int) (s : List UInt8) : ∀ u ∈ [Value.int .i64 k, S s], u.oneCell' = true := by
  intro u hu; simp at hu; rcases hu with rfl | rfl <;> rfl

theorem step_append_op {ops : Array Oper} {o : Oper} {a : Act} {W : World} {K : Act → World → Prop} {Q : Exit → Act → World → Prop} {E : Prop} (hg : o.guard = none) (s x : Operand)
    (ho : o.op = .call { callee := .builtin .append, args := #[s, x], argTypes := #[48, 48] }) (base n : Nat) (v2 : Value) (xs : List Value) (hs : a.eval s = v2) (hown : W.ownsRow base 69 2 v2 n xs) (hb : base ≤ W.heap.size)
    (ad : Addr) (k : Int) (t : List UInt8) (hx : a.eval x = .slice (some ad) 1 1) (hnews : ∀ j u, [Value.int .i64 k, S t][j]? = some u → W.cell? (ad.add j) = some u) (hn : n ≤ 1000000)
    (h : ∀ a3 n3 c3 w3, w3.ownsRow base 69 2 (.slice a3 n3 c3) (n + 1) (xs ++ [Value.int .i64 k, S t]) → Below base W w3 → K (a.put o.dst (.slice a3 n3 c3)) w3) :
    if Region.wanted o (yielded ops a.tmps) = true then Oper.wp Try.prog o a W K Q else E := by
  have hw : Region.wanted o (yielded ops a.tmps) = true := by simp [Region.wanted, hg]
  rw [if_pos hw]
  obtain ⟨i0, hi0, hi1, hi2, hi3⟩ := info_parts infoOp
  refine wp_append_own W s x 48 ho base 69 i0 _ 2 24 Try.underlying48 hi0 hi1 hi2 hi3 rfl (by decide) v2 n xs hs hown ad 1 1 [Value.int .i64 k, S t] hx rfl hnews (op2_one k t) (by unfold maxLen; omega) (by omega) hb ?_
  intro v3 w3 h2 h3 _
  obtain ⟨a3, n3, c3, rfl⟩ := own_slice h2
  exact h a3 n3 c3 w3 h2 ((Below.refl base W).grown h3 hb (fun j hj => (hown.lt j hj).1))

/-- What is known ahead of it. -/
structure WrPre (Z : Nat → Prop) (B b bs bf ba bm r : Nat) (s nm dt : List UInt8) (ov : Value) (ops : List Opn) (k : Int) (v : Value) (off : Bool) (fuse : Int) (l : List DF) (w0 w : World) : Prop where
  hs : w.heap[bs]? = some (.cells #[S s] 9 (0, 0))
  hf : w.heap[bf]? = some (.cells #[S nm, S dt, ov] 50 (0, 0))
  ha : w.heap[ba]? = some (.cells #[.int .i64 k] 3 (0, 0))
  hp : w.heap[bm]? = some (.cells #[.pointer (some ⟨b, 0, none⟩)] 76 (0, 0))
  hm : MBox w b v off fuse
  hown : OwnF w B v l
  lt : bs < B ∧ bf < B ∧ ba < B ∧ bm < B ∧ b < B ∧ r < B ∧ B ≤ w.heap.size ∧ b < bf ∧ bf ≠ r ∧ b < r ∧ w0.heap.size ≤ b ∧ bs ≠ bf ∧ ba ≠ bf ∧ bm ≠ bf
  hup : upS (l.map DF.name)
  hcnt : l.length ≤ 1000
  hops : ∀ x ∈ l, OpsZ Z w0 x
  hop : OpsZ Z w0 ⟨nm, dt, ov, ops⟩
  old : ∀ i, i < w0.heap.size → w.heap[i]? = w0.heap[i]?
  hol : ops.length ≤ 1000

/-- What it comes to. -/
def WrPost (Z : Nat → Prop) (n₀ b r : Nat) (off : Bool) (fuse : Int) (fs : List LF) (w : World) (e : Ending) (w2 : World) : Prop :=
  e = .returned (.tuple #[]) ∧ ∃ v2 l2, MBox w2 b v2 off fuse ∧ FilesX Z n₀ r w2 v2 l2 ∧ los l2 = fs ∧ Below b w w2 ∧ w2.heap[r]? = w.heap[r]?

theorem withF_los (l : List DF) (f : DF) : los (withK DF.name l f) = withF (los l) f.lo := withK_map (key := DF.name) (key' := fun x : LF => x.1) (fun _ => rfl) l f
theorem withK_mem {l : List DF} {f x : DF} (h : x ∈ withK DF.name l f) : x = f ∨ x ∈ l := by
  unfold withK at h
  rcases List.mem_append.1 h with h | h
  · exact .inr (List.mem_filter.1 h).1
  · rcases List.mem_cons.1 h with h | h
    · exact .inl h
    · exact .inr (List.mem_filter.1 h).1

set_option maxHeartbeats 4000000 in
set_option maxRecDepth 100000 in
theorem write1_walk (Z : Nat → Prop) (B b bs bf ba bm r : Nat) (s nm dt : List UInt8) (ov : Value) (ops : List Opn) (k : Int) (v : Value) (off : Bool) (fuse : Int) (l : List DF) (w0 w : World) (h : WrPre Z B b bs bf ba bm r s nm dt ov ops k v off fuse l w0 w) :
    Calls Try.prog 48 #[.pointer (some ⟨bs, 0, none⟩), .pointer (some ⟨bf, 0, none⟩), .pointer (some ⟨ba, 0, none⟩), .pointer (some ⟨bm, 0, none⟩)] w (WrPost Z w0.heap.size b r off fuse (withF (los l) (putOps (nm, dt, ops) k s)) w) := by
  obtain ⟨hs, hf, ha, hp, hm, hown, ⟨l1, l2, l3, l4, l5, l6, l7, l8, l9, l10, l11, l12, l13, l14⟩, hup, hcnt, hops, hop, old, hol⟩ := h
  have hov := hop.here
  simp only at hov
  obtain ⟨oa, oc, rfl, hoc, hom, _⟩ := hov
  have cs := heap_cell hs (j := 0) (v := S s) rfl
  have cf0 := heap_cell hf (j := 0) (v := S nm) rfl
  have cf1 := heap_cell hf (j := 1) (v := S dt) rfl
  have cf2 := heap_cell hf (j := 2) (v := .slice oa ops.length oc) rfl
  have ca := heap_cell ha (j := 0) (v := .int .i64 k) rfl
  have cp := heap_cell hp (j := 0) (v := .pointer (some ⟨b, 0, none⟩)) rfl
  have hone : ∀ x ∈ l, x.ov.oneCell' = true := fun x hx => oprow_one (hops x hx).here
  by_cases hz : s = []
  · have CS := mset_walk B b v off fuse l ⟨nm, dt, .slice oa ops.length oc, ops⟩ w hm hown l7 l5 hone ⟨_, _, _, rfl⟩ (by omega) hup
    have HP := Lib.hid (show putOps (nm, dt, ops) k s = (nm, dt, ops) from if_pos hz)
    have hz1 : (s != []) = false := by rw [hz]; rfl
    have hz2 : s.isEmpty = true := by rw [hz]; rfl
    have HOP := Lib.hid hop
    have HOPS := Lib.hid hops
    have HOLD := Lib.hid old
    subst hz
    clear hop hops old hown hm hs hf ha hp hone
    go_enter Try.func48, Try.ntmps48
    go_wp2_with fail
    refine CS.mono ?_
    rintro e w2 ⟨rfl, v2, hm2, hown2, hal, _⟩
    go_wp2
    go_end0
    refine ⟨rfl, v2, _, hm2, filesx_own hown2 l6 (fun x hx => ?_), by rw [withF_los, HP.out]; rfl, hal.below, hal.same r l10 l6⟩
    have hold : ∀ i, i < w0.heap.size → w2.heap[i]? = w0.heap[i]? := fun i hi => (hal.below.block i (by omega)).trans (HOLD.out i hi)
    rcases withK_mem hx with rfl | hx
    · exact opsx_old HOP.out hold
    · exact opsx_old (HOPS.out x hx) hold
  · have HP := Lib.hid (show putOps (nm, dt, ops) k s = (nm, dt, ops ++ [(k, s)]) from if_neg hz)
    have hz1 : (s != []) = true := by rw [bne_iff_ne]; exact hz
    have hz2 : s.isEmpty = false := by cases s with | nil => exact absurd rfl hz | cons => rfl
    have HOP := Lib.hid hop
    have HOPS := Lib.hid hops
    have HOLD := Lib.hid old
    have HONE := Lib.hid hone
    have HL := Lib.hid (And.intro hol hoc)
    have HRR := Lib.hid (row_flatK (K := 2) opC_len (by decide) (hop w (fun i hi _ => old i hi)))
    have HCL := Lib.hid (fun (W : World) (o : Nat) (ho : o ≤ W.heap.size) (hx : Below w.heap.size w W) => cloOp_walk o oa ops.length oc (ops.flatMap opC) W ho (by omega) (flat_lenK opC_len ops) (by
      rcases HRR.out with h | ⟨b', o', h, hx'⟩
      · exact .inl h
      · exact .inr ⟨b', o', h, fun j u hj => cell_below hx (hx' j u hj)⟩) (op_one ops))
    have HSF := Lib.hid hf
    have HBX := Lib.hid (And.intro hs (And.intro hf (And.intro ha (And.intro hp hm))))
    have HOWN := Lib.hid hown
    have cq := fun o => cell_old cs o
    have cq0 := fun o => cell_old cf0 o
    have cq1 := fun o => cell_old cf1 o
    have cq2 := fun o => cell_old cf2 o
    have cqa := fun o => cell_old ca o
    obtain ⟨i0, hi0, hi1, hi2, hi3⟩ := info_parts infoOp
    have HI := Lib.hid (And.intro hi0 (And.intro hi1 (And.intro hi2 hi3)))
    clear hop hops old hown hm hs hf ha hp hone hi0 hi1 hi2 hi3 hol
    go_enter Try.func48, Try.ntmps48
    go_upto_region 1 with fail
    go_region_law (first
      | (refine step_append_op rfl (.tmp 8) (.tmp 12) rfl w.heap.size ops.length _ _ (by simp [Act.eval, Act.put]) hownQ hszQ _ k s (by simp [Act.eval, Act.put]) hnewsQ (by have := HL.out.1; omega) ?_; intro a3 n3 c3 w3 hown3 hb3; have hbw := hbQ.trans hb3; have fbox := box_kept hbw (heap_lt HSF.out) HSF.out; have fc2 := heap_cell fbox (j := 2) (v := .slice oa ops.length oc) rfl; have ff2 := heap_free fbox 2)
      | (go_simp; go_at_call 49; (with_reducible refine (HCL.out (World.drew w) w.heap.size ?_ ?_).mono ?_); (exact Nat.le_refl _); (exact below_drewB _ _); rintro e w2 ⟨v2, rfl, hown2, hb2⟩; obtain ⟨va, vn, vc, rfl⟩ := own_slice hown2; have hownQ := hown2.alloc (.cells #[.int .i64 k, S s] 69); (have hszQ : w.heap.size ≤ (w2.alloc (.cells #[.int .i64 k, S s] 69)).heap.size := Nat.le_trans (show w.heap.size ≤ w2.heap.size from hb2.size) (by rw [World.size_alloc]; exact Nat.le_succ _)); have hnewsQ := new_cells w2 (.int .i64 k) (S s) 69; (have hbQ : Below w.heap.size w (w2.alloc (.cells #[.int .i64 k, S s] 69)) := (below_drewB w.heap.size w).trans (hb2.alloc hb2.size _)); have kq := cell_below hb2 (show (World.drew w).cell? _ = _ from cs); have kqa := cell_below hb2 (show (World.drew w).cell? _ = _ from ca); have kq2 := fun o => cell_old kq o; have kqa2 := fun o => cell_old kqa o)
      | (go_simp; go_at_call 49; (with_reducible refine (HCL.out (World.drew (World.alloc w (.cells #[.int .i64 k, S s] 69))) (w.heap.size + 1) ?_ ?_).mono ?_); (simp); (exact ((Below.refl _ _).alloc (Nat.le_refl _) _).trans (below_drewB _ _)); rintro e w2 ⟨v2, rfl, hown2, hb2⟩; obtain ⟨va, vn, vc, rfl⟩ := own_slice hown2; (have hownQ : w2.ownsRow w.heap.size 69 2 (.slice va vn vc) ops.length (ops.flatMap opC) := own_mono hown2 (Nat.le_succ _)); (have hszQ : w.heap.size ≤ w2.heap.size := Nat.le_trans (Nat.le_succ _) (show w.heap.size + 1 ≤ w2.heap.size from Nat.le_trans (by show w.heap.size + 1 ≤ (World.alloc w _).heap.size; rw [World.size_alloc]; exact Nat.le_refl _) hb2.size)); (have hnewsQ : ∀ j u, [Value.int .i64 k, S s][j]? = some u → w2.cell? ((⟨w.heap.size, 0, none⟩ : Addr).add j) = some u := fun j u hj => by rw [Addr.add_lit]; exact (hb2.cell (p := ⟨w.heap.size, 0 + j, none⟩) (Nat.lt_succ_self _)).trans (by have := new_cells w (.int .i64 k) (S s) 69 j u hj; rwa [Addr.add_lit] at this)); (have hbQ : Below w.heap.size w w2 := (((Below.refl w.heap.size w).alloc (Nat.le_refl _) _).trans (below_drewB w.heap.size _)).trans (hb2.mono (Nat.le_succ _)))))
    all_goals
      obtain ⟨W4, hW4⟩ : ∃ W4, W4 = w3.setCell ⟨bf, 2, none⟩ (.slice a3 n3 c3) := ⟨_, rfl⟩
      have hne4 : ∀ i, i ≠ bf → W4.heap[i]? = w3.heap[i]? := fun i hi => by rw [hW4]; exact Below.heap_setCell _ _ _ _ hi
      have gf : W4.heap[bf]? = some (.cells #[S nm, S dt, .slice a3 n3 c3] 50 (0, 0)) := by
        have := heap_set_cell (o := 2) fbox (.slice a3 n3 c3); rw [hW4]; simpa using this
      have gp : W4.heap[bm]? = some (.cells #[.pointer (some ⟨b, 0, none⟩)] 76 (0, 0)) := (hne4 _ l14).trans ((hbw.block bm (by omega)).trans HBX.out.2.2.2.1)
      have gm : MBox W4 b v off fuse := (hne4 b (by omega)).trans ((hbw.block b (by omega)).trans HBX.out.2.2.2.2)
      have gown : OwnF W4 B v l := own_keep HOWN.out (fun g _ hg => (hne4 g (by intro e; subst e; exact absurd l2 (by omega))).trans (hbw.block g hg))
      have gops : W4.ownsRow w.heap.size 69 2 (.slice a3 n3 c3) (ops.length + 1) (ops.flatMap opC ++ [.int .i64 k, S s]) := own_keep hown3 (fun g hg _ => hne4 g (by omega))
      have hB4 : Below b w W4 := by rw [hW4]; exact below_setC (hbw.mono (by omega)) (by omega) 2 _
      have hz4 : w.heap.size ≤ W4.heap.size := hB4.size
      have hown0 := HOWN.out.lt
      have CS := mset_walk B b v off fuse l ⟨nm, dt, .slice a3 n3 c3, ops ++ [(k, s)]⟩ W4 gm gown (by omega) l5 HONE.out ⟨_, _, _, rfl⟩ (by omega) hup
      have p0 := heap_cell gp (j := 0) (v := .pointer (some ⟨b, 0, none⟩)) rfl
      have p1 := heap_cell gf (j := 0) (v := S nm) rfl
      have p2 := heap_cell gf (j := 1) (v := S dt) rfl
      have p3 := heap_cell gf (j := 2) (v := .slice a3 n3 c3) rfl
      have HBW := Lib.hid hbw
      have HGO := Lib.hid gops
      rw [← hW4]
      clear hW4 gops gown gm gp gf fbox fc2 ff2 hown3 hbw hbQ hnewsQ hszQ hownQ
      go_wp2_with fail
      refine CS.mono ?_
      rintro e w5 ⟨rfl, v5, hm5, hown5, hal5, hrs5⟩
      try go_wp2
      go_end0
      refine ⟨rfl, v5, _, hm5, filesx_own hown5 l6 (fun x hx => ?_), by rw [withF_los, HP.out]; rfl, hB4.trans hal5.below, (hal5.same r l10 l6).trans ((hne4 r (fun e => l9 e.symm)).trans (HBW.out.block r (by omega)))⟩
      rcases withK_mem hx with rfl | hx
      · refine opsx_own (B := w.heap.size) ?_ (by omega)
        show w5.ownsRow _ _ 2 _ (ops ++ [(k, s)]).length ((ops ++ [(k, s)]).flatMap opC)
        rw [List.length_append, List.flatMap_append]
        exact own_keep HGO.out (fun g h1 h2 => hrs5 g h2 (fun e => by have := (hown0 g e).2; omega) (by omega))
      · exact opsx_old (HOPS.out x hx) (fun i hi => (hal5.below.block i (by omega)).trans ((hB4.block i (by omega)).trans (HOLD.out i hi)))
end Go.Proofs.Ythjoaoakadaieaa
