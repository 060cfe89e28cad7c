/- slices.Delete of one file out of an owned row. The machine's drop: a file is taken away. The program's Remove. The program's Rename. -/
import Derived.Test.YthjoaoakadaieaaMach
import Derived.Test.YthjoaoakadaieaaTail
import Derived.Deep.DeepAppendRoom
import Derived.Test.YthjoaoakadaieaaSorted
import Derived.Test.YthjoaoakadaieaaPSync
namespace Go.Proofs.Ythjoaoakadaieaa
open Go.RowKit

section
variable {P : Program}
theorem wpList_clear_kr (k : Nat) {w : World} {ops : Array Oper} {rest : List Oper} {o : Oper} {a : Act} {Q : Exit → Act → World → Prop} (hgd : o.guard = none) (s : Operand) (t : TypeId)
    (ho : o.op = .call { callee := .builtin .clear, args := #[s], argTypes := #[t] }) (e : TypeId) (i0 : TypeInfo) (z : Value) (ht : P.underlying t = some (.slice e)) (hi : P.info? e = some i0) (hz : i0.zero = some z) (hk : z.cells.size = k) (h1 : ∀ v ∈ z.cells, v.oneCell' = true)
    (g off n c : Nat) (hs : a.eval s = .slice (some ⟨g, off, none⟩) n c) (cur : List Value) (et : TypeId) (hg : w.heap[g]? = some (.cells cur.toArray et (0, 0))) (hfit : off + n * k ≤ cur.length) (hkp : 0 < k) (B : Nat) (w0 : World) (hb : Below B w0 w) (hBg : B ≤ g)
    (h : ∀ w' zs, zs.length = n * k → Hid (w'.heap[g]? = some (.cells (splice cur off zs).toArray et (0, 0))) → Below B w0 w' → (∀ i, i ≠ g → w'.heap[i]? = w.heap[i]?) → wpList P ops Q rest (a.put o.dst (.tuple #[])) w') :
    wpList P ops Q (o :: rest) a w := by
  refine wpList_plain hgd fun K hK => ?_
  obtain ⟨zs, hzl, hrun⟩ := run_clear_k (P := P) k w t e o.type i0 z ht hi hz hk h1 g off n c cur.toArray et hg (by simpa using hfit) hkp
  unfold Oper.wp
  simp [execOp, ho, resolve, invoke, builtin, hs, hrun, Result.andThen]
  exact hK _ _ (h _ zs hzl (show _ = _ by simpa using setRow_heap w g _ _ et _ hg) (below_setRow hb hBg _) (fun i hi => setRow_other w g i _ hi))
end

set_option maxHeartbeats 4000000 in
set_option maxRecDepth 100000 in
theorem delDF_walk (B : Nat) (v : Value) (l : List DF) (k : Nat) (w : World) (hown : OwnF w B v l) (hk : k < l.length) (hcnt : l.length ≤ 1000000) (hB : B ≤ w.heap.size) (hone : ∀ x ∈ l, x.ov.oneCell' = true) :
    Calls Try.prog 79 #[v, .int .i64 k, .int .i64 ((k : Int) + 1)] w fun e w' => ∃ v', e = .returned v' ∧ OwnF w' B v' (l.take k ++ l.drop (k + 1)) ∧ Below B w w' ∧ (∀ i, i < w.heap.size → v.ownBlock ≠ some i → w'.heap[i]? = w.heap[i]?) := by
  have hgw := hown.lt
  rcases hown.2 with ⟨rfl, h0⟩ | ⟨g, cap, cur, rfl, hBg, hg, hnc, hcm, hcs, ht⟩
  · omega
  obtain ⟨i0, hi0, hz0, hz1, hz2⟩ := info_parts infoDF
  have hfl := hown.1
  have HF1 := Lib.hid (show l.flatMap dfC = (l.take k).flatMap dfC ++ (l.drop k).flatMap dfC by rw [← List.flatMap_append, List.take_append_drop])
  have hpre : World.ownsRow w B 50 3 (.slice (some ⟨g, 0, none⟩) k cap) k ((l.take k).flatMap dfC) := by
    refine ⟨by rw [flat_lenK dfC_len, List.length_take, Nat.min_eq_left (by omega)], .inr ⟨g, cap, cur, rfl, hBg, hg, by omega, hcm, hcs, ?_⟩⟩
    rw [← flat_take dfC_len, ← ht, List.take_take, Nat.min_eq_left (by omega)]
  have hnl : ((l.drop (k + 1)).flatMap dfC).length = (l.length - (k + 1)) * 3 := by rw [flat_lenK dfC_len, List.length_drop]
  have hnews : ∀ j u, ((l.drop (k + 1)).flatMap dfC)[j]? = some u → w.cell? ((⟨g, (k + 1) * 3, none⟩ : Addr).add j) = some u := by
    intro j u hj
    rw [← flat_drop dfC_len, List.getElem?_drop, ← ht, List.getElem?_take] at hj
    split at hj
    · rw [Addr.add_lit]
      exact heap_cell hg (j := (k + 1) * 3 + j) (by simpa using hj)
    · cases hj
  have hne1 : ∀ u ∈ (l.drop (k + 1)).flatMap dfC, u.oneCell' = true := flat_oneK (fun x hx => df3_one (hone x (List.mem_of_mem_drop hx)))
  have hgl : g < w.heap.size := (hgw g rfl).2
  obtain ⟨A, hA⟩ : ∃ A, (l.take k).flatMap dfC = A := ⟨_, rfl⟩
  obtain ⟨N, hN⟩ : ∃ N, (l.drop (k + 1)).flatMap dfC = N := ⟨_, rfl⟩
  have HRES := Lib.hid (show (l.take k ++ l.drop (k + 1)).flatMap dfC = A ++ N by rw [List.flatMap_append, hA, hN])
  have HLEN := Lib.hid (show (l.take k ++ l.drop (k + 1)).length = k + (l.length - (k + 1)) by simp; omega)
  rw [hN] at hnews hne1 hnl
  rw [hA] at hpre
  clear hA hN HF1 hfl ht hone hgw hown
  have HNL := Lib.hid hnl
  have HPRE := Lib.hid hpre
  have HNEWS := Lib.hid hnews
  have HNE := Lib.hid hne1
  generalize hn : l.length = n at *
  have HN := Lib.hid hn
  clear hn hnl hpre hnews hne1
  have e1 : ((k : Int) == (k : Int) + 1) = false := by rw [beq_eq_false_iff_ne]; omega
  have e2 : (k : Int) + 1 ≤ (n : Int) := by omega
  have e3 : (n : Int) ≤ (cap : Int) := by omega
  have e4 : (k : Int) ≤ (cap : Int) := by omega
  go_enter Try.func79, Try.ntmps79
  go_upto_region 5 with fail
  (refine wp_tail_later 6 2 rfl (by kernel_rfl) (by kernel_rfl) (by kernel_rfl) (by kernel_rfl) ?_; simp only [List.take_succ_cons, List.take_zero]; (repeat (go_big_quiet_step (fail))); refine wpQuiet_nil ?_; intro _ hw1; obtain ⟨lw, hw2⟩ := hw1; subst hw2)
  have hBw : Below w.heap.size w lw.world := lw.below
  have hz := hBw.size
  have hgq : lw.world.heap[g]? = some (.cells cur 50 (0, 0)) := (hBw.block g hgl).trans hg
  have HPRE2 := Lib.hid (HPRE.out.kept (w' := lw.world) (row := none) ⟨hBw.os, hBw.tape, hBw.output, hBw.size, fun i hi _ => hBw.block i hi⟩ (.inr (by simp [Value.ownBlock])))
  have HNEWS2 : Hid (∀ j u, N[j]? = some u → lw.world.cell? ((⟨g, (k + 1) * 3, none⟩ : Addr).add j) = some u) := Lib.hid (fun j u hj => by
    have h8 := HNEWS.out j u hj
    rw [Addr.add_lit] at h8 ⊢
    exact (World.cell?_of_block (a := ⟨g, (k + 1) * 3 + j, none⟩) (hBw.block g hgl)).trans h8)
  refine wpAny_ready (rs := [6]) (by kernel_rfl) (by simp) ?_
  refine AllReady.cons rfl (fun K hK => ?_) AllReady.nil
  have had : ∃ ad, (if cap = k + 1 then (⟨g, 0, none⟩ : Addr) else ⟨g, (k + 1) * 3, none⟩) = ad ∧ ∀ j u, N[j]? = some u → lw.world.cell? (ad.add j) = some u := by
    by_cases hce : cap = k + 1
    · have hN0 : N = [] := List.eq_nil_of_length_eq_zero (by have := HNL.out; omega)
      exact ⟨_, rfl, fun j u hj => by rw [hN0] at hj; cases hj⟩
    · exact ⟨_, rfl, fun j u hj => by rw [if_neg hce]; exact HNEWS2.out j u hj⟩
  obtain ⟨ad, had1, had2⟩ := had
  have HAD2 := Lib.hid had2
  clear had2
  have h9 : (if cap = k + 1 then some (⟨g, 0, none⟩ : Addr) else some ⟨g, (k + 1) * 3, none⟩) = some ad := by rw [← had1]; split <;> rfl
  refine wp_append_own_spare lw.world (.tmp 22) (.tmp 25) 33 rfl B 50 i0 3 Try.underlying33 hi0 hz1 g k cap A (by simp [Act.eval, Act.put]) HPRE2.out ad (n - (k + 1)) (cap - (k + 1)) N (by simp [Act.eval, Act.put, Addr.add]; exact h9) HNL.out HAD2.out HNE.out (by omega) ?_
  intro w2 hown2 hgr2
  refine hK _ _ ?_
  clear hK K
  (refine wpAny_ready (rs := [7]) (by kernel_rfl) (by simp) ?_; refine AllReady.cons rfl (fun K hK => ?_) AllReady.nil; go_simp; refine hK _ _ ?_; clear hK K)
  refine wpAny_done (by kernel_rfl) ?_ _
  have hb2 : Below B lw.world w2 := (Below.refl B lw.world).grown hgr2 (by omega) (fun j hj => by cases hj; exact hBg)
  have hb3 : Below B w w2 := (hBw.mono hB).trans hb2
  have hoth : ∀ i, i < w.heap.size → i ≠ g → w2.heap[i]? = w.heap[i]? := fun i h1 h2 => (hgr2.block i (by omega) (fun e => h2 (Option.some.inj e))).trans (hBw.block i h1)
  obtain ⟨L, hL⟩ : ∃ L, k + (n - (k + 1)) = L := ⟨_, rfl⟩
  have hLn : L + 1 = n := by omega
  rw [hL] at hown2 HLEN ⊢
  have hlen2 := hown2.1
  rcases hown2.2 with ⟨h0, _⟩ | ⟨g2, cap2, cur2, hv2, _, hg2, hnc2, _, hcs2, ht2⟩
  · cases h0
  cases hv2
  have HT2 := Lib.hid ht2
  have HL2 := Lib.hid hlen2
  have HOTH := Lib.hid hoth
  clear hown2 hgr2 hoth HPRE HPRE2 HNEWS HNEWS2 HAD2 HNL HNE hL had1 hgq hg ht2 hlen2 hcs
  have e5 : (L : Int) ≤ (n : Int) := by omega
  have e6 : ¬ cap = L := by omega
  have HG2 := Lib.hid (show w2.heap[g]? = some (.cells cur2.toList.toArray 50 (0, 0)) by simpa using hg2)
  have HFIT := Lib.hid (show L * 3 + (n - L) * 3 ≤ cur2.toList.length by simp; omega)
  have HZ1 := Lib.hid (show ∀ v ∈ (Value.agg #[.string ⟨#[]⟩, .string ⟨#[]⟩, .slice none 0 0]).cells, v.oneCell' = true by decide)
  have HZ0 := Lib.hid (show (Value.agg #[.string ⟨#[]⟩, .string ⟨#[]⟩, .slice none 0 0]).cells.size = 3 by rfl)
  go_wp2_with (with_reducible refine wpList_clear_kr 3 rfl (.tmp 31) 33 rfl 50 i0 (.agg #[.string ⟨#[]⟩, .string ⟨#[]⟩, .slice none 0 0]) Try.underlying33 hi0 hz0 HZ0.out HZ1.out g (L * 3) (n - L) (cap - L) rfl cur2.toList 50 HG2.out HFIT.out (by decide) B w hb3 hBg ?_)
  intro w4 zs hzl hg4 hb4 hoth4
  go_wp2
  go_ret
  refine ⟨_, rfl, ?_, hb4, fun i hi hne => (hoth4 i (fun e => hne (by rw [e]; rfl))).trans (HOTH.out i hi (fun e => hne (by rw [e]; rfl)))⟩
  show World.ownsRow w4 B 50 3 _ (l.take k ++ l.drop (k + 1)).length _
  rw [HRES.out, HLEN.out]
  refine ⟨HL2.out, .inr ⟨g, cap, _, rfl, hBg, hg4.out, by omega, hcm, ?_, ?_⟩⟩
  · rw [List.size_toArray, length_splice _ _ _ (by simp; omega)]; simpa using hcs2
  · rw [List.toList_toArray, ← HT2.out]
    unfold splice
    rw [List.take_append_of_le_length (by simp; omega), List.take_take, Nat.min_self]
end Go.Proofs.Ythjoaoakadaieaa

namespace Go.Proofs.Ythjoaoakadaieaa
open Go.RowKit

set_option maxHeartbeats 4000000 in
set_option maxRecDepth 100000 in
theorem drop15_walk (B b : Nat) (v : Value) (off : Bool) (fuse : Int) (l : List DF) (n : List UInt8) (w : World) (hm : MBox w b v off fuse) (hown : OwnF w B v l) (hB : B ≤ w.heap.size) (hb : b < B) (hone : ∀ x ∈ l, x.ov.oneCell' = true) (hcnt : l.length ≤ 1000000) (hup : upS (l.map DF.name)) :
    Calls Try.prog 54 #[.pointer (some ⟨b, 0, none⟩), S n] w fun e w' => e = .returned (.tuple #[]) ∧ ∃ v', MBox w' b v' off fuse ∧ OwnF w' B v' (withoutK DF.name l n) ∧ Alt B b w w' ∧ (∀ k, k < w.heap.size → v.ownBlock ≠ some k → k ≠ b → w'.heap[k]? = w.heap[k]?) := by
  have hr1 := Row.of_ownsK dfC_len hown
  have hbw : b < w.heap.size := by omega
  have C := pmat_walk b v off fuse l n w hm hr1 hcnt hup
  have HWK := Lib.hid (withoutK_up (n := n) hup)
  have HPOS := Lib.hid (fun h => pos_lt (n := n) hup h)
  generalize withoutK DF.name l n = wl at *
  obtain ⟨k, hk⟩ : ∃ k, k = posL (l.map DF.name) n := ⟨_, rfl⟩
  rw [← hk] at C HWK HPOS
  clear hk hup hr1
  obtain ⟨ya, yn, yc, rfl⟩ := own_slice hown
  by_cases hin : n ∈ l.map DF.name
  · have HW1 := Lib.hid (HWK.out.trans (by rw [if_pos hin]))
    obtain ⟨hk, hnm⟩ := HPOS.out hin
    rw [show decide (n ∈ l.map DF.name) = true by simpa using hin] at C
    clear HWK HPOS hin hnm
    have hwr : IntKind.i64.wrap ((k : Int) + 1) = (k : Int) + 1 := by rw [IntKind.wrap_i64]; omega
    go_enter Try.func54, Try.ntmps54
    go_wp2_with fail
    refine C.mono ?_
    rintro e w1 ⟨rfl, hb1⟩
    have hm2 := heap_later hm hb1 hbw
    have hc0 := heap_cell hm2 (j := 0) (v := .slice ya yn yc) rfl
    have hown1 : OwnF w1 B (.slice ya yn yc) l := own_keep hown (fun i h1 h2 => hb1.block i h2)
    have hz1 := hb1.size
    have C2 := delDF_walk B (.slice ya yn yc) l k w1 hown1 hk hcnt (by omega) hone
    clear C
    go_wp2_with fail
    refine C2.mono ?_
    rintro e w2 ⟨v2, rfl, hown2, hb2, hrs2⟩
    obtain ⟨va, vn, vc, rfl⟩ := own_slice hown2
    have hm3 : MBox w2 b (.slice ya yn yc) off fuse := (hb2.block b hb).trans hm2
    have hc1 := heap_cell hm3 (j := 0) (v := .slice ya yn yc) rfl
    have hf1 := heap_free hm3 0
    have HFIN := Lib.hid (own_set (o := 0) (u := .slice va vn vc) hown2 hb)
    have HM := Lib.hid (mbox_set hm3 (.slice va vn vc))
    have HAL := Lib.hid (((Alt.of_below (hb1.mono hB) hb).trans (Alt.of_below hb2 hb)).setCell 0 (.slice va vn vc))
    clear C2 hown2 hm3 hown1 hm2
    try go_wp2
    go_end0
    refine ⟨rfl, _, HM.out, by rw [HW1.out]; exact HFIN.out, HAL.out, fun i hi hne hib => ?_⟩
    exact (Below.heap_setCell _ _ _ _ hib).trans ((hrs2 i (by omega) hne).trans (hb1.block i hi))
  · have HW1 := Lib.hid (HWK.out.trans (by rw [if_neg hin, List.take_append_drop]))
    rw [show decide (n ∈ l.map DF.name) = false by simpa using hin] at C
    clear HWK HPOS hin
    go_enter Try.func54, Try.ntmps54
    go_wp2_with fail
    refine C.mono ?_
    rintro e w1 ⟨rfl, hb1⟩
    have HM := Lib.hid (heap_later hm hb1 hbw)
    have HFIN := Lib.hid (show OwnF w1 B (.slice ya yn yc) l from own_keep hown (fun i h1 h2 => hb1.block i h2))
    have HAL := Lib.hid (Alt.of_below (hb1.mono hB) hb)
    clear C
    try go_wp2
    go_end0
    exact ⟨rfl, _, HM.out, by rw [HW1.out]; exact HFIN.out, HAL.out, fun i hi _ _ => hb1.block i hi⟩
end Go.Proofs.Ythjoaoakadaieaa

namespace Go.Proofs.Ythjoaoakadaieaa
open Go.RowKit

theorem withoutF_los (l : List DF) (n : List UInt8) : los (withoutK DF.name l n) = withoutF (los l) n := withoutK_map (key := DF.name) (key' := fun x : LF => x.1) (fun _ => rfl) l n
theorem withoutK_mem {l : List DF} {n : List UInt8} {x : DF} (h : x ∈ withoutK DF.name l n) : x ∈ l := by
  unfold withoutK at h
  exact (List.mem_filter.1 h).1

set_option maxHeartbeats 4000000 in
set_option maxRecDepth 100000 in
theorem remove1_walk (Z : Nat → Prop) (B b bn bm r : Nat) (n : List UInt8) (v0 v : Value) (off' : Bool) (f' : Int) (l : List DF) (w0 w : World)
    (hn : w.heap[bn]? = some (.cells #[S n] 9 (0, 0)))
    (hp : w.heap[bm]? = some (.cells #[.pointer (some ⟨b, 0, none⟩)] 76 (0, 0))) (hm : MBox w b v off' f') (hown : OwnF w B v l)
    (lt : bn < B ∧ bm < B ∧ b < B ∧ r < B ∧ B ≤ w.heap.size ∧ b < r ∧ w0.heap.size ≤ b) (hup : upS (l.map DF.name)) (hcnt : l.length ≤ 1000) (hzf : FilesZ Z w0 v0 l)
    (old : ∀ i, i < w0.heap.size → w.heap[i]? = w0.heap[i]?) :
    Calls Try.prog 55 #[.pointer (some ⟨bm, 0, none⟩), .pointer (some ⟨bn, 0, none⟩)] w (WrPost Z w0.heap.size b r off' f' (withoutF (los l) n) w) := by
  obtain ⟨l2, l3, l4, l5, l6, l7, l8⟩ := lt
  have HOPZ := Lib.hid hzf.ops
  have hr := hzf.here
  clear hzf
  have hone : ∀ x ∈ l, x.ov.oneCell' = true := fun x hx => oprow_one (hr.2 x hx)
  have C := drop15_walk B b v off' f' l n w hm hown l6 l4 hone (by omega) hup
  have n0 := heap_cell hn (j := 0) (v := S n) rfl
  have p0 := heap_cell hp (j := 0) (v := .pointer (some ⟨b, 0, none⟩)) rfl
  have HOLD := Lib.hid old
  clear hr hone old hup hn hp hm hown
  go_enter Try.func55, Try.ntmps55
  go_wp2_with fail
  refine C.mono ?_
  rintro e w2 ⟨rfl, v2, hm2, hown2, hal, _⟩
  try go_wp2
  go_end0
  refine ⟨rfl, v2, _, hm2, filesx_own hown2 l5 (fun x hx => ?_), by rw [withoutF_los], hal.below, hal.same r l7 l5⟩
  exact opsx_old (HOPZ.out x (withoutK_mem hx)) (fun i hi => (hal.below.block i (by omega)).trans (HOLD.out i hi))

set_option maxHeartbeats 8000000 in
set_option maxRecDepth 100000 in
theorem premove_walk (Z : Nat → Prop) (v : Value) (off : Bool) (fuse : Int) (l : List DF) (n : List UInt8) (w : World) (hZ : ∀ k, Z k → k < w.heap.size) (hzf : FilesZ Z w v l) (hcnt : l.length ≤ 1000) (hup : upS (l.map DF.name)) (hf1 : -1 ≤ fuse) (hf2 : fuse ≤ 1048576) :
    Calls Try.prog 27 #[DiskV v off fuse, S n] w (DiskPost Z (removeD (los l, off, fuse) n) w) := by
  have HZZ := Lib.hid hZ
  have HZF := Lib.hid hzf
  have hr := hzf.here
  clear hzf hZ
  have hrv := hr
  obtain ⟨⟨a, c, rfl, hc, hcm, hxx⟩, hyy⟩ := hrv
  clear hxx hyy hc hcm
  have hwn : wrongN (los l, off, fuse) n = if decide (n ∈ l.map DF.name) = true then 0 else 5 := by
    unfold wrongN
    by_cases hin : n ∈ l.map DF.name
    · obtain ⟨hk, _, hf⟩ := findF_in hup hin
      rw [hf]; simp [hin]
    · rw [findF_out hin]; simp [hin]
  have HW := Lib.hid (show removeD (los l, off, fuse) n = actD (los l, off, fuse) (wrongN (los l, off, fuse) n) (withoutF (los l) n) from rfl)
  rw [hwn] at HW
  generalize removeD (los l, off, fuse) n = res at *
  clear hwn
  obtain ⟨A0, hA0⟩ : ∃ A, A = w.alloc (.cells #[.slice a l.length c, .bool off, .int .i64 fuse] 35) := ⟨_, rfl⟩
  obtain ⟨A1, hA1⟩ : ∃ A, A = A0.alloc (.cells #[S n] 9) := ⟨_, rfl⟩
  obtain ⟨A2, hA2⟩ : ∃ A, A = A1.alloc (.cells #[.slice none 0 0, .bool false, .int .i64 0] 35) := ⟨_, rfl⟩
  obtain ⟨A3, hA3⟩ : ∃ A, A = A2.alloc (.cells #[.slice a l.length c, .bool off, .int .i64 fuse] 78) := ⟨_, rfl⟩
  obtain ⟨A4, hA4⟩ : ∃ A, A = A3.alloc (.cells #[.pointer (some ⟨w.heap.size + 1 + 1 + 1, 0, none⟩)] 76) := ⟨_, rfl⟩
  have z0 : A0.heap.size = w.heap.size + 1 := by rw [hA0]; simp
  have z1 : A1.heap.size = w.heap.size + 1 + 1 := by rw [hA1, World.size_alloc, z0]
  have z2 : A2.heap.size = w.heap.size + 1 + 1 + 1 := by rw [hA2, World.size_alloc, z1]
  have z3 : A3.heap.size = w.heap.size + 1 + 1 + 1 + 1 := by rw [hA3, World.size_alloc, z2]
  have z4 : A4.heap.size = w.heap.size + 1 + 1 + 1 + 1 + 1 := by rw [hA4, World.size_alloc, z3]
  have hB4 : Below w.heap.size w A4 := by
    rw [hA4, hA3, hA2, hA1, hA0]
    exact ((((Below.refl _ w).alloc (Nat.le_refl _) _).alloc (by simp) _).alloc (by simp; omega) _).alloc (by simp; omega) _ |>.alloc (by simp; omega) _
  go_enter Try.func27, Try.ntmps27
  go_upto_region 2 with fail
  rw [← hA0, ← hA1, ← hA2, ← hA3, ← hA4]
  have m0 : A4.heap[w.heap.size]? = some (.cells #[.slice a l.length c, .bool off, .int .i64 fuse] 35 (0, 0)) := by rw [hA4, hA3, hA2, hA1]; exact heap_old (heap_old (heap_old (heap_old (by rw [hA0]; exact heap_alloc_new w _))))
  have m1 : A4.heap[w.heap.size + 1]? = some (.cells #[S n] 9 (0, 0)) := by rw [hA4, hA3, hA2]; exact heap_old (heap_old (heap_old (by rw [hA1]; exact heap_new' z0.symm _)))
  have m2 : A4.heap[w.heap.size + 1 + 1]? = some (.cells #[.slice none 0 0, .bool false, .int .i64 0] 35 (0, 0)) := by rw [hA4, hA3]; exact heap_old (heap_old (by rw [hA2]; exact heap_new' z1.symm _))
  have m3 : MBox A4 (w.heap.size + 1 + 1 + 1) (.slice a l.length c) off fuse := by rw [hA4]; exact heap_old (by rw [hA3]; exact heap_new' z2.symm _)
  have m4 : A4.heap[w.heap.size + 1 + 1 + 1 + 1]? = some (.cells #[.pointer (some ⟨w.heap.size + 1 + 1 + 1, 0, none⟩)] 76 (0, 0)) := by rw [hA4]; exact heap_new' z3.symm _
  clear hA0 hA1 hA2 hA3 hA4 z0 z1 z2 z3
  generalize hb4 : w.heap.size + 1 + 1 + 1 + 1 = b4 at *
  generalize hb3 : w.heap.size + 1 + 1 + 1 = b3 at *
  generalize hb2 : w.heap.size + 1 + 1 = b2 at *
  generalize hb1 : w.heap.size + 1 = b1 at *
  generalize hb0 : w.heap.size = b0 at *
  have HC := Lib.hid (fun (W : World) (h1 : MBox W b3 (.slice a l.length c) off fuse) (h2 : ∀ i, i < w.heap.size → W.heap[i]? = w.heap[i]?) => missing_walk b3 (.slice a l.length c) off fuse l n W h1 (hr.1.keep h2) (by omega) hup)
  have HA := Lib.hid (fun (wr : Int) (w3 : World) (n0 : w3.heap[b0]? = some (.cells #[.slice a l.length c, .bool off, .int .i64 fuse] 35 (0, 0))) (n1 : w3.heap[b1]? = some (.cells #[S n] 9 (0, 0))) (n3 : MBox w3 b3 (.slice a l.length c) off fuse) (n4 : w3.heap[b4]? = some (.cells #[.pointer (some ⟨b3, 0, none⟩)] 76 (0, 0))) (hB : Below b0 w w3) =>
    act_walk Z b3 (.slice a l.length c) off fuse l wr 55 #[.pointer (some ⟨b4, 0, none⟩), .pointer (some ⟨b1, 0, none⟩)] (withoutF (los l) n) w w3 n3 HZF.out ⟨hB.os, hB.tape, hB.output, hB.size, fun i hi => hB.block i (by omega)⟩ (by omega) (by omega) hf1 hf2 (enters_of Try.func55 (by kernel_rfl) rfl)
      (fun _ f' v1 W1 hm1 hown1 hsz1 hsame1 => by
        have hlt4 := heap_lt n4
        exact remove1_walk Z (w3.heap.size + 1) b3 b1 b4 w3.heap.size n (.slice a l.length c) v1 off f' l w W1
          ((hsame1 b1 (by omega) (by omega)).trans n1) ((hsame1 b4 (by omega) (by omega)).trans n4) hm1 hown1
          ⟨by omega, by omega, by omega, by omega, hsz1, by omega, by omega⟩ hup hcnt HZF.out (fun i hi => (hsame1 i (by omega) (by omega)).trans (hB.block i (by omega)))))
  have HM := Lib.hid (And.intro m0 (And.intro m1 (And.intro m2 (And.intro m3 m4))))
  have c1 := heap_cell m1 (j := 0) (v := S n) rfl
  have c4 := heap_cell m4 (j := 0) (v := .pointer (some ⟨b3, 0, none⟩)) rfl
  have HB4 := Lib.hid hB4
  generalize (if decide (n ∈ l.map DF.name) = true then (0 : Int) else 5) = wr at *
  clear m0 m1 m2 m3 m4 hr hup hB4 hcnt hf1 hf2
  clear A0 A1 A2 A3
  have HZ := Lib.hid (And.intro hb0 (And.intro hb1 (And.intro hb2 (And.intro hb3 (And.intro hb4 z4)))))
  have HLA := Lib.hid (show b0 ≤ A4.heap.size by omega)
  have CM := fun (p : LaterOf A4) => HC.out p.world (box_kept p.below (heap_lt HM.out.2.2.2.1) HM.out.2.2.2.1) (fun i hi => (p.below.block i (by omega)).trans (HB4.out.block i (by omega)))
  have l1 := LaterOf.cell c1
  have l4 := LaterOf.cell c4
  clear hb0 hb1 hb2 hb3 hb4 z4 HC c1 c4
  (refine wp_tail_later 5 5 rfl (by kernel_rfl) (by kernel_rfl) (by kernel_rfl) (by kernel_rfl) ?_; simp only [List.take_succ_cons, List.take_zero]; (repeat (go_big_quiet_step ((go_at_call 51; exact LaterOf.call _ (CM _))))); refine wpQuiet_nil ?_; intro _ hw1; obtain ⟨lw, hw2⟩ := hw1; subst hw2)
  obtain ⟨hb0, hb1, hb2, hb3, hb4, z4⟩ := HZ.out
  obtain ⟨m0, m1, m2, m3, m4⟩ := HM.out
  have n0 := box_kept lw.below (heap_lt m0) m0
  have n1 := box_kept lw.below (heap_lt m1) m1
  have n2 := box_kept lw.below (heap_lt m2) m2
  have n3 := box_kept lw.below (heap_lt m3) m3
  have n4 := box_kept lw.below (heap_lt m4) m4
  have hbw1 : Below b0 w lw.world := HB4.out.trans (lw.below.mono HLA.out)
  clear m0 m1 m2 m3 m4 CM l1 l4
  (refine wpAny_ready (rs := [5]) (by kernel_rfl) (by simp) ?_; refine AllReady.cons rfl (fun K hK => ?_) AllReady.nil; go_simp; go_wp2_with ((go_at_call 47; (with_reducible refine (HA.out _ _ n0 n1 n3 n4 hbw1).mono ?_); rintro e w5 ⟨v', off', fuse', l', err, rfl, hfx, hact, hb5'⟩; obtain ⟨a', c', hv', hv2⟩ := hfx.here.1; clear hv2; subst hv'; have r3 := box_kept hb5' (show b2 < b3 by omega) n2; have d0 := heap_cell r3 (j := 0) (v := .slice none 0 0) rfl; have d1 := heap_cell r3 (j := 1) (v := .bool false) rfl; have d2 := heap_cell r3 (j := 2) (v := .int .i64 0) rfl; have s0 := is_some d0; have s1 := is_some d1; have s2 := is_some d2; have f0 := heap_free r3 0; have f1 := heap_free r3 1; have f2 := heap_free r3 2; have HFX := Lib.hid hfx; have HACT := Lib.hid hact; (have HB5 := Lib.hid (hbw1.trans (hb5'.mono (show b0 ≤ b3 by omega)))); have hz1 := heap_lt n4; clear hfx hact r3 hb5')))
  refine wpAny_ready (rs := [6, 7]) (by kernel_rfl) (by simp) ?_
  refine AllReady.cons rfl (fun K hK => ?_) (AllReady.cons rfl (fun K hK => ?_) AllReady.nil)
  all_goals (go_simp; refine hK _ _ ?_; clear hK K)
  · (refine wpAny_ready (rs := [7]) (by kernel_rfl) (by simp) ?_; refine AllReady.cons rfl (fun K hK => ?_) AllReady.nil; go_simp; refine hK _ _ ?_; clear hK K)
    (refine wpAny_ready (rs := [8]) (by kernel_rfl) (by simp) ?_; refine AllReady.cons rfl (fun K hK => ?_) AllReady.nil; go_simp; refine hK _ _ ?_; clear hK K)
    (refine wpAny_ready (rs := [9]) (by kernel_rfl) (by simp) ?_; refine AllReady.cons rfl (fun K hK => ?_) AllReady.nil; go_simp; refine hK _ _ ?_; clear hK K)
    refine wpAny_done (by kernel_rfl) ?_ _
    go_wp2
    refine bodyPost_ret (v := .tuple #[DiskV (.slice a' l'.length c') off' fuse', .int .i64 err]) (by simp [results, Try.results27, go_sem, s0, s1, s2]) rfl ?_
    have hz5 := HB5.out.size
    have hz3 := hbw1.size
    refine ⟨_, _, _, l', err, rfl, filesx_z HFX.out (b3 := b2) (by rw [size_setCell', size_setCell', size_setCell']) (fun k hk => ((Below.heap_setCell _ _ _ _ hk).trans (Below.heap_setCell _ _ _ _ hk)).trans (Below.heap_setCell _ _ _ _ hk)) ⟨by omega, by omega⟩ (by rw [hb0]; exact HZZ.out) (by omega) (by omega), by rw [HW.out]; exact HACT.out, ?_⟩
    · rw [hb0]
      exact below_setC (below_setC (below_setC HB5.out (by omega) 0 _) (by omega) 1 _) (by omega) 2 _
  · (refine wpAny_ready (rs := [6]) (by kernel_rfl) (by simp) ?_; refine AllReady.cons rfl (fun K hK => ?_) AllReady.nil; go_simp; refine hK _ _ ?_; clear hK K)
    (refine wpAny_ready (rs := [8]) (by kernel_rfl) (by simp) ?_; refine AllReady.cons rfl (fun K hK => ?_) AllReady.nil; go_simp; refine hK _ _ ?_; clear hK K)
    (refine wpAny_ready (rs := [9]) (by kernel_rfl) (by simp) ?_; refine AllReady.cons rfl (fun K hK => ?_) AllReady.nil; go_simp; refine hK _ _ ?_; clear hK K)
    refine wpAny_done (by kernel_rfl) ?_ _
    go_wp2
    refine bodyPost_ret (v := .tuple #[DiskV (.slice a' l'.length c') off' fuse', .int .i64 err]) (by simp [results, Try.results27, go_sem, s0, s1, s2]) rfl ?_
    have hz5 := HB5.out.size
    have hz3 := hbw1.size
    refine ⟨_, _, _, l', err, rfl, filesx_z HFX.out (b3 := b2) (by rw [size_setCell', size_setCell', size_setCell']) (fun k hk => ((Below.heap_setCell _ _ _ _ hk).trans (Below.heap_setCell _ _ _ _ hk)).trans (Below.heap_setCell _ _ _ _ hk)) ⟨by omega, by omega⟩ (by rw [hb0]; exact HZZ.out) (by omega) (by omega), by rw [HW.out]; exact HACT.out, ?_⟩
    · rw [hb0]
      exact below_setC (below_setC (below_setC HB5.out (by omega) 0 _) (by omega) 1 _) (by omega) 2 _
end Go.Proofs.Ythjoaoakadaieaa

namespace Go.Proofs.Ythjoaoakadaieaa
open Go.RowKit

theorem Alt.other {B b : Nat} {w w' : World} (h : Alt B b w w') {k : Nat} (h1 : k < B) (h2 : k ≠ b) : w'.heap[k]? = w.heap[k]? := by
  rcases Nat.lt_or_ge k b with h3 | h3
  · exact h.below.block k h3
  · exact h.same k (by omega) h1

set_option maxHeartbeats 4000000 in
set_option maxRecDepth 100000 in
theorem rename1_walk (Z : Nat → Prop) (B b bn bt bm r : Nat) (n m : List UInt8) (v0 v : Value) (off off' : Bool) (fuse f' : Int) (l : List DF) (w0 w : World)
    (hn : w.heap[bn]? = some (.cells #[S n] 9 (0, 0))) (ht : w.heap[bt]? = some (.cells #[S m] 9 (0, 0)))
    (hp : w.heap[bm]? = some (.cells #[.pointer (some ⟨b, 0, none⟩)] 76 (0, 0))) (hm : MBox w b v off' f') (hown : OwnF w B v l)
    (lt : bn < B ∧ bt < B ∧ bm < B ∧ b < B ∧ r < B ∧ B ≤ w.heap.size ∧ b < r ∧ w0.heap.size ≤ b ∧ bn ≠ b ∧ bt ≠ b ∧ bm ≠ b) (hup : upS (l.map DF.name)) (hcnt : l.length ≤ 1000) (hzf : FilesZ Z w0 v0 l) (hin : n ∈ l.map DF.name)
    (old : ∀ i, i < w0.heap.size → w.heap[i]? = w0.heap[i]?) :
    Calls Try.prog 53 #[.pointer (some ⟨bm, 0, none⟩), .pointer (some ⟨bn, 0, none⟩), .pointer (some ⟨bt, 0, none⟩)] w (WrPost Z w0.heap.size b r off' f' (withF (withoutF (los l) n) (m, (fileOf (los l, off, fuse) n).2)) w) := by
  obtain ⟨l1, l2, l3, l4, l5, l6, l7, l8, l9, l10, l11⟩ := lt
  have HOPZ := Lib.hid hzf.ops
  have hr := hzf.here
  clear hzf
  have hone : ∀ x ∈ l, x.ov.oneCell' = true := fun x hx => oprow_one (hr.2 x hx)
  have hrow := Row.of_ownsK dfC_len hown
  have C := pmat_walk b v off' f' l n w hm hrow (by omega) hup
  obtain ⟨hk, hnm, hf⟩ := findF_in hup hin
  rw [show decide (n ∈ l.map DF.name) = true by simpa using hin] at C
  have hfo0 : fileOf (los l, off, fuse) n = l[posL (l.map DF.name) n].lo := by unfold fileOf; rw [hf]; rfl
  have HUPW := Lib.hid (withoutK_up' (n := n) hup)
  have hslice : ∃ oa on oc, l[posL (l.map DF.name) n].ov = .slice oa on oc := by
    obtain ⟨a, c, h, _⟩ := hr.2 l[posL (l.map DF.name) n] (by simp)
    exact ⟨a, _, c, h⟩
  have HUP := Lib.hid hup
  have HOPK := Lib.hid (HOPZ.out l[posL (l.map DF.name) n] (by simp))
  generalize posL (l.map DF.name) n = k at *
  have HONE := Lib.hid hone
  have HROW := Lib.hid hrow
  have HOLD := Lib.hid old
  clear hr hone hrow hup hf hnm hin old
  have hown2 := hown.2
  rcases hown2 with ⟨rfl, h0⟩ | ⟨g, cap, cur, rfl, hBg, hg, hnc, hcm, hcs, hta⟩
  · omega
  have hgl := heap_lt hg
  have hx := HROW.out
  obtain ⟨a', c', hv', _, _, hx⟩ := hx
  cases hv'
  rcases hx with hx | ⟨bx, ox, hax, hx⟩
  · exfalso; rw [hx] at hk; simp at hk
  cases hax
  obtain ⟨hx1, hx2, hx3⟩ := df_cells hx hk
  clear hx
  generalize l[k] = y at *
  obtain ⟨nm, dt, ov, os⟩ := y
  simp only at hx1 hx2 hx3 hslice
  obtain ⟨oa, on, oc, rfl⟩ := hslice
  have hfo : fileOf (los l, off, fuse) n = (nm, dt, os) := hfo0
  have HFO := Lib.hid hfo
  clear hfo hfo0 hta hcs hnc hcm
  have k' : (k : Int) < (l.length : Int) := by omega
  have n0 := heap_cell hn (j := 0) (v := S n) rfl
  have p0 := heap_cell hp (j := 0) (v := .pointer (some ⟨b, 0, none⟩)) rfl
  go_enter Try.func53, Try.ntmps53
  go_wp2_with fail
  refine C.mono ?_
  rintro e w1 ⟨rfl, hb1⟩
  have q1 := heap_later hn hb1 (heap_lt hn)
  have q2 := heap_later ht hb1 (heap_lt ht)
  have q3 := heap_later hp hb1 (heap_lt hp)
  have q4 : MBox w1 b (.slice (some ⟨g, 0, none⟩) l.length cap) off' f' := heap_later hm hb1 (heap_lt hm)
  have q5 : OwnF w1 B (.slice (some ⟨g, 0, none⟩) l.length cap) l := own_keep hown (fun i h1 h2 => hb1.block i h2)
  have c1 := heap_cell q1 (j := 0) (v := S n) rfl
  have c2 := heap_cell q2 (j := 0) (v := S m) rfl
  have c3 := heap_cell q3 (j := 0) (v := .pointer (some ⟨b, 0, none⟩)) rfl
  have c4 := heap_cell q4 (j := 0) (v := .slice (some ⟨g, 0, none⟩) l.length cap) rfl
  have e1 := cell_below hb1 hx1
  have e2 := cell_below hb1 hx2
  have e3 := cell_below hb1 hx3
  have hz1 := hb1.size
  clear C n0 p0 hx1 hx2 hx3 hn ht hp hm hown hg
  simp only [Nat.zero_add] at e1 e2 e3
  have y2 := fun X => cell_old c2 X
  go_upto_region 3 with fail
  obtain ⟨w2, hw2⟩ : ∃ w2, w2 = w1.alloc (.cells #[S m, S dt, .slice oa on oc] 50) := ⟨_, rfl⟩
  rw [← hw2]
  have r1 : w2.heap[bn]? = some (.cells #[S n] 9 (0, 0)) := by rw [hw2]; exact heap_old q1
  have r3 : w2.heap[bm]? = some (.cells #[.pointer (some ⟨b, 0, none⟩)] 76 (0, 0)) := by rw [hw2]; exact heap_old q3
  have r4 : MBox w2 b (.slice (some ⟨g, 0, none⟩) l.length cap) off' f' := by rw [hw2]; exact heap_old q4
  have r5 : OwnF w2 B (.slice (some ⟨g, 0, none⟩) l.length cap) l := by rw [hw2]; exact World.ownsRow.alloc q5 _
  have r6 : w2.heap[w1.heap.size]? = some (.cells #[S m, S dt, .slice oa on oc] 50 (0, 0)) := by rw [hw2]; exact heap_alloc_new _ _
  have hz2 : w2.heap.size = w1.heap.size + 1 := by rw [hw2]; simp
  have hB2 : Below w.heap.size w w2 := by rw [hw2]; exact hb1.alloc hz1 _
  clear hw2 y2 q1 q2 q3 q4 q5 c1 c2 c3 c4 e1 e2 e3
  have CD := drop15_walk B b (.slice (some ⟨g, 0, none⟩) l.length cap) off' f' l n w2 r4 r5 (by omega) l4 HONE.out (by omega) HUP.out
  have c1 := heap_cell r1 (j := 0) (v := S n) rfl
  have c3 := heap_cell r3 (j := 0) (v := .pointer (some ⟨b, 0, none⟩)) rfl
  go_wp2_with fail
  refine CD.mono ?_
  rintro e w3 ⟨rfl, v3, hm3, hown3, hal3, hoth3⟩
  have hz3 := hal3.size
  have s3 := (hal3.other l3 l11).trans r3
  have s6 := (hoth3 w1.heap.size (by omega) (fun e => by have h9 : g = w1.heap.size := Option.some.inj e; omega) (by omega)).trans r6
  have hone3 : ∀ x ∈ withoutK DF.name l n, x.ov.oneCell' = true := fun x hx => HONE.out x (withoutK_mem hx)
  have CS := mset_walk B b v3 off' f' (withoutK DF.name l n) ⟨m, dt, .slice oa on oc, os⟩ w3 hm3 hown3 (by omega) l4 hone3 ⟨_, _, _, rfl⟩ (by have : (withoutK DF.name l n).length ≤ l.length := List.length_filter_le _ _; omega) HUPW.out
  have d3 := heap_cell s3 (j := 0) (v := .pointer (some ⟨b, 0, none⟩)) rfl
  have d0 := heap_cell s6 (j := 0) (v := S m) rfl
  have d1 := heap_cell s6 (j := 1) (v := S dt) rfl
  have d2 := heap_cell s6 (j := 2) (v := .slice oa on oc) rfl
  clear CD hm3 hown3 r1 r3 r4 r5 r6 c1 c3 hoth3 hone3
  go_wp2_with fail
  refine CS.mono ?_
  rintro e w4 ⟨rfl, v4, hm4, hown4, hal4, _⟩
  have hold : ∀ i, i < w0.heap.size → w4.heap[i]? = w0.heap[i]? := fun i hi => (hal4.below.block i (by omega)).trans ((hal3.below.block i (by omega)).trans ((hB2.block i (by omega)).trans (HOLD.out i hi)))
  try go_wp2
  go_end0
  refine ⟨rfl, v4, _, hm4, filesx_own hown4 l5 (fun x hx => ?_), by rw [withF_los, withoutF_los, HFO.out]; rfl, ((hB2.mono (by omega)).trans hal3.below).trans hal4.below, (hal4.same r l7 l5).trans ((hal3.same r l7 l5).trans (hB2.block r (by omega)))⟩
  rcases withK_mem hx with rfl | hx
  · exact opsx_old HOPK.out hold
  · exact opsx_old (HOPZ.out x (withoutK_mem hx)) hold

set_option maxHeartbeats 8000000 in
set_option maxRecDepth 100000 in
theorem prename_walk (Z : Nat → Prop) (v : Value) (off : Bool) (fuse : Int) (l : List DF) (n m : List UInt8) (w : World) (hZ : ∀ k, Z k → k < w.heap.size) (hzf : FilesZ Z w v l) (hcnt : l.length ≤ 1000) (hup : upS (l.map DF.name)) (hf1 : -1 ≤ fuse) (hf2 : fuse ≤ 1048576) (hml : m.length ≤ 1000000) :
    Calls Try.prog 26 #[DiskV v off fuse, S n, S m] w (DiskPost Z (renameD (los l, off, fuse) n m) w) := by
  have HZZ := Lib.hid hZ
  have HZF := Lib.hid hzf
  have hr := hzf.here
  clear hzf hZ
  have hrv := hr
  obtain ⟨⟨a, c, rfl, hc, hcm, hxx⟩, hyy⟩ := hrv
  clear hxx hyy hc hcm
  have hwn : wrongN (los l, off, fuse) n = if decide (n ∈ l.map DF.name) = true then 0 else 5 := by
    unfold wrongN
    by_cases hin : n ∈ l.map DF.name
    · obtain ⟨hk, _, hf⟩ := findF_in hup hin
      rw [hf]; simp [hin]
    · rw [findF_out hin]; simp [hin]
  have HW := Lib.hid (show renameD (los l, off, fuse) n m = actD (los l, off, fuse) (if nameB m = false then 7 else wrongN (los l, off, fuse) n) (withF (withoutF (los l) n) (m, (fileOf (los l, off, fuse) n).2)) from rfl)
  rw [hwn] at HW
  have HIN := Lib.hid (show (if nameB m = false then (7 : Int) else if decide (n ∈ l.map DF.name) = true then 0 else 5) = 0 → n ∈ l.map DF.name by
    intro h
    split at h
    · cases h
    · split at h
      · rename_i h2; simpa using h2
      · cases h)
  generalize renameD (los l, off, fuse) n m = res at *
  clear hwn
  obtain ⟨A0, hA0⟩ : ∃ A, A = w.alloc (.cells #[.slice a l.length c, .bool off, .int .i64 fuse] 35) := ⟨_, rfl⟩
  obtain ⟨A1, hA1⟩ : ∃ A, A = A0.alloc (.cells #[S n] 9) := ⟨_, rfl⟩
  obtain ⟨A2, hA2⟩ : ∃ A, A = A1.alloc (.cells #[S m] 9) := ⟨_, rfl⟩
  obtain ⟨A3, hA3⟩ : ∃ A, A = A2.alloc (.cells #[.slice none 0 0, .bool false, .int .i64 0] 35) := ⟨_, rfl⟩
  obtain ⟨A4, hA4⟩ : ∃ A, A = A3.alloc (.cells #[.slice a l.length c, .bool off, .int .i64 fuse] 78) := ⟨_, rfl⟩
  obtain ⟨A5, hA5⟩ : ∃ A, A = A4.alloc (.cells #[.pointer (some ⟨w.heap.size + 1 + 1 + 1 + 1, 0, none⟩)] 76) := ⟨_, rfl⟩
  have z0 : A0.heap.size = w.heap.size + 1 := by rw [hA0]; simp
  have z1 : A1.heap.size = w.heap.size + 1 + 1 := by rw [hA1, World.size_alloc, z0]
  have z2 : A2.heap.size = w.heap.size + 1 + 1 + 1 := by rw [hA2, World.size_alloc, z1]
  have z3 : A3.heap.size = w.heap.size + 1 + 1 + 1 + 1 := by rw [hA3, World.size_alloc, z2]
  have z4 : A4.heap.size = w.heap.size + 1 + 1 + 1 + 1 + 1 := by rw [hA4, World.size_alloc, z3]
  have z5 : A5.heap.size = w.heap.size + 1 + 1 + 1 + 1 + 1 + 1 := by rw [hA5, World.size_alloc, z4]
  have hB5 : Below w.heap.size w A5 := by
    rw [hA5, hA4, hA3, hA2, hA1, hA0]
    exact (((((Below.refl _ w).alloc (Nat.le_refl _) _).alloc (by simp) _).alloc (by simp; omega) _).alloc (by simp; omega) _).alloc (by simp; omega) _ |>.alloc (by simp; omega) _
  go_enter Try.func26, Try.ntmps26
  go_upto_region 2 with fail
  rw [← hA0, ← hA1, ← hA2, ← hA3, ← hA4, ← hA5]
  have m0 : A5.heap[w.heap.size]? = some (.cells #[.slice a l.length c, .bool off, .int .i64 fuse] 35 (0, 0)) := by rw [hA5, hA4, hA3, hA2, hA1]; exact heap_old (heap_old (heap_old (heap_old (heap_old (by rw [hA0]; exact heap_alloc_new w _)))))
  have m1 : A5.heap[w.heap.size + 1]? = some (.cells #[S n] 9 (0, 0)) := by rw [hA5, hA4, hA3, hA2]; exact heap_old (heap_old (heap_old (heap_old (by rw [hA1]; exact heap_new' z0.symm _))))
  have m2 : A5.heap[w.heap.size + 1 + 1]? = some (.cells #[S m] 9 (0, 0)) := by rw [hA5, hA4, hA3]; exact heap_old (heap_old (heap_old (by rw [hA2]; exact heap_new' z1.symm _)))
  have m3 : A5.heap[w.heap.size + 1 + 1 + 1]? = some (.cells #[.slice none 0 0, .bool false, .int .i64 0] 35 (0, 0)) := by rw [hA5, hA4]; exact heap_old (heap_old (by rw [hA3]; exact heap_new' z2.symm _))
  have m4 : MBox A5 (w.heap.size + 1 + 1 + 1 + 1) (.slice a l.length c) off fuse := by rw [hA5]; exact heap_old (by rw [hA4]; exact heap_new' z3.symm _)
  have m5 : A5.heap[w.heap.size + 1 + 1 + 1 + 1 + 1]? = some (.cells #[.pointer (some ⟨w.heap.size + 1 + 1 + 1 + 1, 0, none⟩)] 76 (0, 0)) := by rw [hA5]; exact heap_new' z4.symm _
  clear hA0 hA1 hA2 hA3 hA4 hA5 z0 z1 z2 z3 z4
  generalize hb5 : w.heap.size + 1 + 1 + 1 + 1 + 1 = b5 at *
  generalize hb4 : w.heap.size + 1 + 1 + 1 + 1 = b4 at *
  generalize hb3 : w.heap.size + 1 + 1 + 1 = b3 at *
  generalize hb2 : w.heap.size + 1 + 1 = b2 at *
  generalize hb1 : w.heap.size + 1 = b1 at *
  generalize hb0 : w.heap.size = b0 at *
  have CM := missing_walk b4 (.slice a l.length c) off fuse l n A5 m4 (hr.1.keep (fun i hi => hB5.block i (by omega))) (by omega) hup
  have HA := Lib.hid (fun (wr : Int) (hwr : wr = 0 → n ∈ l.map DF.name) (w3 : World) (n1 : w3.heap[b1]? = some (.cells #[S n] 9 (0, 0))) (n2 : w3.heap[b2]? = some (.cells #[S m] 9 (0, 0))) (n4 : MBox w3 b4 (.slice a l.length c) off fuse) (n5 : w3.heap[b5]? = some (.cells #[.pointer (some ⟨b4, 0, none⟩)] 76 (0, 0))) (hB : Below b0 w w3) =>
    act_walk Z b4 (.slice a l.length c) off fuse l wr 53 #[.pointer (some ⟨b5, 0, none⟩), .pointer (some ⟨b1, 0, none⟩), .pointer (some ⟨b2, 0, none⟩)] (withF (withoutF (los l) n) (m, (fileOf (los l, off, fuse) n).2)) w w3 n4 HZF.out ⟨hB.os, hB.tape, hB.output, hB.size, fun i hi => hB.block i (by omega)⟩ (by omega) (by omega) hf1 hf2 (enters_of Try.func53 (by kernel_rfl) rfl)
      (fun h0 f' v1 W1 hm1 hown1 hsz1 hsame1 => by
        have hlt5 := heap_lt n5
        exact rename1_walk Z (w3.heap.size + 1) b4 b1 b2 b5 w3.heap.size n m (.slice a l.length c) v1 off off fuse f' l w W1
          ((hsame1 b1 (by omega) (by omega)).trans n1) ((hsame1 b2 (by omega) (by omega)).trans n2) ((hsame1 b5 (by omega) (by omega)).trans n5) hm1 hown1
          ⟨by omega, by omega, by omega, by omega, by omega, hsz1, by omega, by omega, by omega, by omega, by omega⟩ hup hcnt HZF.out (hwr h0) (fun i hi => (hsame1 i (by omega) (by omega)).trans (hB.block i (by omega)))))
  have HZ := Lib.hid (And.intro hb0 (And.intro hb1 (And.intro hb2 (And.intro hb3 (And.intro hb4 (And.intro hb5 z5))))))
  have c1 := heap_cell m1 (j := 0) (v := S n) rfl
  have c5 := heap_cell m5 (j := 0) (v := .pointer (some ⟨b4, 0, none⟩)) rfl
  have hzA : b0 ≤ A5.heap.size := by omega
  generalize hwd : (if decide (n ∈ l.map DF.name) = true then (0 : Int) else 5) = wd at *
  clear hr hup hcnt hf1 hf2 hwd hb0 hb1 hb2 hb3 hb4 hb5 z5
  clear A0 A1 A2 A3 A4
  go_wp2_with fail
  refine CM.mono ?_
  rintro e w1 ⟨rfl, hbw⟩
  have hBW1 : Below b0 w w1 := hB5.trans (hbw.mono hzA)
  have k1 := box_kept hbw (heap_lt m1) m1
  have k2 := box_kept hbw (heap_lt m2) m2
  have k3 := box_kept hbw (heap_lt m3) m3
  have k4 : MBox w1 b4 _ off fuse := box_kept hbw (heap_lt m4) m4
  have k5 := box_kept hbw (heap_lt m5) m5
  have hz1 := hbw.size
  have CN := name_walk m w1 hml
  clear CM m0 m1 m2 m3 m4 m5 c1 c5
  have c2 := heap_cell k2 (j := 0) (v := S m) rfl
  generalize hq : nameB m = q at *
  clear hq
  go_wp2_with fail
  refine CN.mono ?_
  rintro e w2 ⟨rfl, hb2w⟩
  have hBW2 : Below b0 w w2 := hBW1.trans (hb2w.mono (Nat.le_trans hzA hz1))
  have j1 := box_kept hb2w (heap_lt k1) k1
  have j2 := box_kept hb2w (heap_lt k2) k2
  have j3 := box_kept hb2w (heap_lt k3) k3
  have j4 : MBox w2 b4 _ off fuse := box_kept hb2w (heap_lt k4) k4
  have j5 := box_kept hb2w (heap_lt k5) k5
  have c5 := heap_cell j5 (j := 0) (v := .pointer (some ⟨b4, 0, none⟩)) rfl
  clear CN k1 k2 k3 k4 k5 c2
  obtain ⟨wr, hwr, HIN2, HW2⟩ : ∃ wr, (if q = false then (7 : Int) else wd) = wr ∧ (wr = 0 → n ∈ l.map DF.name) ∧ Hid (res = actD (los l, off, fuse) wr (withF (withoutF (los l) n) (m, (fileOf (los l, off, fuse) n).2))) := ⟨_, rfl, HIN.out, HW⟩
  have CA := HA.out wr HIN2 w2 j1 j2 j4 j5 hBW2
  clear HA HIN HW HIN2
  have HJ3 := Lib.hid j3
  have hlt := heap_lt j5
  clear j1 j2 j3 j4 j5
  cases q
  all_goals
    simp only [Bool.true_eq_false, if_true, if_false] at hwr
    subst hwr
    go_wp2_with fail
    refine CA.mono ?_
    rintro e w5 ⟨v', off', fuse', l', err, rfl, hfx, hact, hb5'⟩
    obtain ⟨a', c', hv', hv2⟩ := hfx.here.1
    clear hv2
    subst hv'
    obtain ⟨hb0, hb1, hb2, hb3, hb4, hb5, z5⟩ := HZ.out
    have r3 := box_kept hb5' (show b3 < b4 by omega) HJ3.out
    have d0 := heap_cell r3 (j := 0) (v := .slice none 0 0) rfl
    have d1 := heap_cell r3 (j := 1) (v := .bool false) rfl
    have d2 := heap_cell r3 (j := 2) (v := .int .i64 0) rfl
    have s0 := is_some d0
    have s1 := is_some d1
    have s2 := is_some d2
    have f0 := heap_free r3 0
    have f1 := heap_free r3 1
    have f2 := heap_free r3 2
    have HFX := Lib.hid hfx
    have HACT := Lib.hid hact
    have HB5 := Lib.hid (hBW2.trans (hb5'.mono (show b0 ≤ b4 by omega)))
    have HZ2 := Lib.hid (And.intro hb0 (And.intro hb1 (And.intro hb2 (And.intro hb3 (And.intro hb4 (And.intro hb5 z5))))))
    clear hfx hact r3 hb5' hb0 hb1 hb2 hb3 hb4 hb5 z5 CA
    go_wp2
    refine bodyPost_ret (v := .tuple #[DiskV (.slice a' l'.length c') off' fuse', .int .i64 err]) (by simp [results, Try.results26, go_sem, s0, s1, s2]) rfl ?_
    obtain ⟨hb0, hb1, hb2, hb3, hb4, hb5, z5⟩ := HZ2.out
    have hz5 := HB5.out.size
    have hz3 := hBW2.size
    refine ⟨_, _, _, l', err, rfl, filesx_z HFX.out (b3 := b3) (by rw [size_setCell', size_setCell', size_setCell']) (fun k hk => ((Below.heap_setCell _ _ _ _ hk).trans (Below.heap_setCell _ _ _ _ hk)).trans (Below.heap_setCell _ _ _ _ hk)) ⟨by omega, by omega⟩ (by rw [hb0]; exact HZZ.out) (by omega) (by omega), by rw [HW2.out]; exact HACT.out, ?_⟩
    rw [hb0]
    exact below_setC (below_setC (below_setC HB5.out (by omega) 0 _) (by omega) 1 _) (by omega) 2 _
end Go.Proofs.Ythjoaoakadaieaa
