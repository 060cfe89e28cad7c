/- slices.Delete of one file out of an owned row. -/
import Derived.Test.YthjoaoakadaieaaMach
import Derived.Test.YthjoaoakadaieaaTail
import Derived.Deep.DeepAppendRoom
namespace Go.Proofs.Ythjoaoakadaieaa
open Go.RowKit

section
variable {P : Program}
theorem wpList_clear_kr (k : Nat) {w : World} {ops : Array Oper} {rest : List Oper} {o : Oper} {a : Act} {Q : Exit → Act → World → Prop} (hgd : o.guard = none) (s : Operand) (t : TypeId)
    (ho : o.op = .call { callee := .builtin .clear, args := #[s], argTypes := #[t] }) (e : TypeId) (i0 : TypeInfo) (z : Value) (ht : P.underlying t = some (.slice e)) (hi : P.info? e = some i0) (hz : i0.zero = some z) (hk : z.cells.size = k) (h1 : ∀ v ∈ z.cells, v.oneCell' = true)
    (g off n c : Nat) (hs : a.eval s = .slice (some ⟨g, off, none⟩) n c) (cur : List Value) (et : TypeId) (hg : w.heap[g]? = some (.cells cur.toArray et (0, 0))) (hfit : off + n * k ≤ cur.length) (hkp : 0 < k) (B : Nat) (w0 : World) (hb : Below B w0 w) (hBg : B ≤ g)
    (h : ∀ w' zs, zs.length = n * k → Hid (w'.heap[g]? = some (.cells (splice cur off zs).toArray et (0, 0))) → Below B w0 w' → (∀ i, i ≠ g → w'.heap[i]? = w.heap[i]?) → wpList P ops Q rest (a.put o.dst (.tuple #[])) w') :
    wpList P ops Q (o :: rest) a w := by
  refine wpList_plain hgd fun K hK => ?_
  obtain ⟨zs, hzl, hrun⟩ := run_clear_k (P := P) k w t e o.type i0 z ht hi hz hk h1 g off n c cur.toArray et hg (by simpa using hfit) hkp
  unfold Oper.wp
  simp [execOp, ho, resolve, invoke, builtin, hs, hrun, Result.andThen]
  exact hK _ _ (h _ zs hzl (show _ = _ by simpa using setRow_heap w g _ _ et _ hg) (below_setRow hb hBg _) (fun i hi => setRow_other w g i _ hi))
end

set_option maxHeartbeats 4000000 in
set_option maxRecDepth 100000 in
theorem delDF_walk (B : Nat) (v : Value) (l : List DF) (k : Nat) (w : World) (hown : OwnF w B v l) (hk : k < l.length) (hcnt : l.length ≤ 1000000) (hB : B ≤ w.heap.size) (hone : ∀ x ∈ l, x.ov.oneCell' = true) :
    Calls Try.prog 79 #[v, .int .i64 k, .int .i64 ((k : Int) + 1)] w fun e w' => ∃ v', e = .returned v' ∧ OwnF w' B v' (l.take k ++ l.drop (k + 1)) ∧ Below B w w' ∧ (∀ i, i < w.heap.size → v.ownBlock ≠ some i → w'.heap[i]? = w.heap[i]?) := by
  have hgw := hown.lt
  rcases hown.2 with ⟨rfl, h0⟩ | ⟨g, cap, cur, rfl, hBg, hg, hnc, hcm, hcs, ht⟩
  · omega
  obtain ⟨i0, hi0, hz0, hz1, hz2⟩ := info_parts infoDF
  have hfl := hown.1
  have HF1 := Lib.hid (show l.flatMap dfC = (l.take k).flatMap dfC ++ (l.drop k).flatMap dfC by rw [← List.flatMap_append, List.take_append_drop])
  have hpre : World.ownsRow w B 50 3 (.slice (some ⟨g, 0, none⟩) k cap) k ((l.take k).flatMap dfC) := by
    refine ⟨by rw [flat_lenK dfC_len, List.length_take, Nat.min_eq_left (by omega)], .inr ⟨g, cap, cur, rfl, hBg, hg, by omega, hcm, hcs, ?_⟩⟩
    rw [← flat_take dfC_len, ← ht, List.take_take, Nat.min_eq_left (by omega)]
  have hnl : ((l.drop (k + 1)).flatMap dfC).length = (l.length - (k + 1)) * 3 := by rw [flat_lenK dfC_len, List.length_drop]
  have hnews : ∀ j u, ((l.drop (k + 1)).flatMap dfC)[j]? = some u → w.cell? ((⟨g, (k + 1) * 3, none⟩ : Addr).add j) = some u := by
    intro j u hj
    rw [← flat_drop dfC_len, List.getElem?_drop, ← ht, List.getElem?_take] at hj
    split at hj
    · rw [Addr.add_lit]
      exact heap_cell hg (j := (k + 1) * 3 + j) (by simpa using hj)
    · cases hj
  have hne1 : ∀ u ∈ (l.drop (k + 1)).flatMap dfC, u.oneCell' = true := flat_oneK (fun x hx => df3_one (hone x (List.mem_of_mem_drop hx)))
  have hgl : g < w.heap.size := (hgw g rfl).2
  obtain ⟨A, hA⟩ : ∃ A, (l.take k).flatMap dfC = A := ⟨_, rfl⟩
  obtain ⟨N, hN⟩ : ∃ N, (l.drop (k + 1)).flatMap dfC = N := ⟨_, rfl⟩
  have HRES := Lib.hid (show (l.take k ++ l.drop (k + 1)).flatMap dfC = A ++ N by rw [List.flatMap_append, hA, hN])
  have HLEN := Lib.hid (show (l.take k ++ l.drop (k + 1)).length = k + (l.length - (k + 1)) by simp; omega)
  rw [hN] at hnews hne1 hnl
  rw [hA] at hpre
  clear hA hN HF1 hfl ht hone hgw hown
  have HNL := Lib.hid hnl
  have HPRE := Lib.hid hpre
  have HNEWS := Lib.hid hnews
  have HNE := Lib.hid hne1
  generalize hn : l.length = n at *
  have HN := Lib.hid hn
  clear hn hnl hpre hnews hne1
  have e1 : ((k : Int) == (k : Int) + 1) = false := by rw [beq_eq_false_iff_ne]; omega
  have e2 : (k : Int) + 1 ≤ (n : Int) := by omega
  have e3 : (n : Int) ≤ (cap : Int) := by omega
  have e4 : (k : Int) ≤ (cap : Int) := by omega
  go_enter Try.func79, Try.ntmps79
  go_upto_region 5 with fail
  (refine wp_tail_later 6 2 rfl (by kernel_rfl) (by kernel_rfl) (by kernel_rfl) (by kernel_rfl) ?_; simp only [List.take_succ_cons, List.take_zero]; (repeat (go_big_quiet_step (fail))); refine wpQuiet_nil ?_; intro _ hw1; obtain ⟨lw, hw2⟩ := hw1; subst hw2)
  have hBw : Below w.heap.size w lw.world := lw.below
  have hz := hBw.size
  have hgq : lw.world.heap[g]? = some (.cells cur 50 (0, 0)) := (hBw.block g hgl).trans hg
  have HPRE2 := Lib.hid (HPRE.out.kept (w' := lw.world) (row := none) ⟨hBw.os, hBw.tape, hBw.output, hBw.size, fun i hi _ => hBw.block i hi⟩ (.inr (by simp [Value.ownBlock])))
  have HNEWS2 : Hid (∀ j u, N[j]? = some u → lw.world.cell? ((⟨g, (k + 1) * 3, none⟩ : Addr).add j) = some u) := Lib.hid (fun j u hj => by
    have h8 := HNEWS.out j u hj
    rw [Addr.add_lit] at h8 ⊢
    exact (World.cell?_of_block (a := ⟨g, (k + 1) * 3 + j, none⟩) (hBw.block g hgl)).trans h8)
  refine wpAny_ready (rs := [6]) (by kernel_rfl) (by simp) ?_
  refine AllReady.cons rfl (fun K hK => ?_) AllReady.nil
  have had : ∃ ad, (if cap = k + 1 then (⟨g, 0, none⟩ : Addr) else ⟨g, (k + 1) * 3, none⟩) = ad ∧ ∀ j u, N[j]? = some u → lw.world.cell? (ad.add j) = some u := by
    by_cases hce : cap = k + 1
    · have hN0 : N = [] := List.eq_nil_of_length_eq_zero (by have := HNL.out; omega)
      exact ⟨_, rfl, fun j u hj => by rw [hN0] at hj; cases hj⟩
    · exact ⟨_, rfl, fun j u hj => by rw [if_neg hce]; exact HNEWS2.out j u hj⟩
  obtain ⟨ad, had1, had2⟩ := had
  have HAD2 := Lib.hid had2
  clear had2
  have h9 : (if cap = k + 1 then some (⟨g, 0, none⟩ : Addr) else some ⟨g, (k + 1) * 3, none⟩) = some ad := by rw [← had1]; split <;> rfl
  refine wp_append_own_spare lw.world (.tmp 22) (.tmp 25) 33 rfl B 50 i0 3 Try.underlying33 hi0 hz1 g k cap A (by simp [Act.eval, Act.put]) HPRE2.out ad (n - (k + 1)) (cap - (k + 1)) N (by simp [Act.eval, Act.put, Addr.add]; exact h9) HNL.out HAD2.out HNE.out (by omega) ?_
  intro w2 hown2 hgr2
  refine hK _ _ ?_
  clear hK K
  (refine wpAny_ready (rs := [7]) (by kernel_rfl) (by simp) ?_; refine AllReady.cons rfl (fun K hK => ?_) AllReady.nil; go_simp; refine hK _ _ ?_; clear hK K)
  refine wpAny_done (by kernel_rfl) ?_ _
  have hb2 : Below B lw.world w2 := (Below.refl B lw.world).grown hgr2 (by omega) (fun j hj => by cases hj; exact hBg)
  have hb3 : Below B w w2 := (hBw.mono hB).trans hb2
  have hoth : ∀ i, i < w.heap.size → i ≠ g → w2.heap[i]? = w.heap[i]? := fun i h1 h2 => (hgr2.block i (by omega) (fun e => h2 (Option.some.inj e))).trans (hBw.block i h1)
  obtain ⟨L, hL⟩ : ∃ L, k + (n - (k + 1)) = L := ⟨_, rfl⟩
  have hLn : L + 1 = n := by omega
  rw [hL] at hown2 HLEN ⊢
  have hlen2 := hown2.1
  rcases hown2.2 with ⟨h0, _⟩ | ⟨g2, cap2, cur2, hv2, _, hg2, hnc2, _, hcs2, ht2⟩
  · cases h0
  cases hv2
  have HT2 := Lib.hid ht2
  have HL2 := Lib.hid hlen2
  have HOTH := Lib.hid hoth
  clear hown2 hgr2 hoth HPRE HPRE2 HNEWS HNEWS2 HAD2 HNL HNE hL had1 hgq hg ht2 hlen2 hcs
  have e5 : (L : Int) ≤ (n : Int) := by omega
  have e6 : ¬ cap = L := by omega
  have HG2 := Lib.hid (show w2.heap[g]? = some (.cells cur2.toList.toArray 50 (0, 0)) by simpa using hg2)
  have HFIT := Lib.hid (show L * 3 + (n - L) * 3 ≤ cur2.toList.length by simp; omega)
  have HZ1 := Lib.hid (show ∀ v ∈ (Value.agg #[.string ⟨#[]⟩, .string ⟨#[]⟩, .slice none 0 0]).cells, v.oneCell' = true by decide)
  have HZ0 := Lib.hid (show (Value.agg #[.string ⟨#[]⟩, .string ⟨#[]⟩, .slice none 0 0]).cells.size = 3 by rfl)
  go_wp2_with (with_reducible refine wpList_clear_kr 3 rfl (.tmp 31) 33 rfl 50 i0 (.agg #[.string ⟨#[]⟩, .string ⟨#[]⟩, .slice none 0 0]) Try.underlying33 hi0 hz0 HZ0.out HZ1.out g (L * 3) (n - L) (cap - L) rfl cur2.toList 50 HG2.out HFIT.out (by decide) B w hb3 hBg ?_)
  intro w4 zs hzl hg4 hb4 hoth4
  go_wp2
  go_ret
  refine ⟨_, rfl, ?_, hb4, fun i hi hne => (hoth4 i (fun e => hne (by rw [e]; rfl))).trans (HOTH.out i hi (fun e => hne (by rw [e]; rfl)))⟩
  show World.ownsRow w4 B 50 3 _ (l.take k ++ l.drop (k + 1)).length _
  rw [HRES.out, HLEN.out]
  refine ⟨HL2.out, .inr ⟨g, cap, _, rfl, hBg, hg4.out, by omega, hcm, ?_, ?_⟩⟩
  · rw [List.size_toArray, length_splice _ _ _ (by simp; omega)]; simpa using hcs2
  · rw [List.toList_toArray, ← HT2.out]
    unfold splice
    rw [List.take_append_of_le_length (by simp; omega), List.take_take, Nat.min_self]
end Go.Proofs.Ythjoaoakadaieaa
