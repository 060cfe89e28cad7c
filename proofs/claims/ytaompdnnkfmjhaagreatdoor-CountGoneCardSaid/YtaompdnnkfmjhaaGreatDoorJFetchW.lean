/- fetch.walk: an iterator over what is reached. In a round: an operation that needs no world may be taken first; an append by its law. No program in sight. -/
import Derived.Test.YtaompdnnkfmjhaaGreatDoorJMapB
import Derived.Test.YtaompdnnkfmjhaaGreatDoorJReachQ
import Derived.Test.YtaompdnnkfmjhaaGreatDoorJKeysOf
import Derived.Test.YtaompdnnkfmjhaaGreatDoorJCList
import Derived.Test.YtaompdnnkfmjhaaGreatDoorJAs11
namespace Go.Proofs.YtaompdnnkfmjhaaGreatDoor
open Go.RowKit
attribute [local go_sem] Oper.semAt_some

theorem row_block {α : Type} {f : α → List Value} {w w' : World} {v : Value} {l : List α} (h : Row f w v l) (hk : ∀ j, v.ownBlock = some j → j < w.heap.size → w'.heap[j]? = w.heap[j]?) : Row f w' v l := by
  obtain ⟨a, c, rfl, hc, hm, hx⟩ := h
  refine ⟨a, c, rfl, hc, hm, ?_⟩
  rcases hx with hx | ⟨k, o', rfl, hx⟩
  · exact .inl hx
  · refine .inr ⟨k, o', rfl, fun j x hj i y hy => ?_⟩
    have h1 := hx j x hj i y hy
    exact (World.cell?_of_block (a := ⟨k, _, none⟩) (hk k rfl (lt_of_cell h1))).trans h1
def encW (x : List UInt8 × Bool) : Array Value := #[S x.1, .bool x.2]
noncomputable def xsW (o : List Snp) (l : List (List UInt8)) : List (List UInt8 × Bool) := (qF o l).map fun k => (k, okO o k)
theorem xsW_take {o : List Snp} {l : List (List UInt8)} (h : 32 * l.length + rawsL o ≤ 32 * 1000000) {n : Nat} (hn : n < (qAt o l n).length) :
    (xsW o l).take (n + 1) = (xsW o l).take n ++ [((qAt o l n)[n], okO o (qAt o l n)[n])] ∧ (xsW o l).take n ++ [((qAt o l n)[n], okO o (qAt o l n)[n])] <+: xsW o l := by
  have h1 : (xsW o l).take (n + 1) = (xsW o l).take n ++ [((qAt o l n)[n], okO o (qAt o l n)[n])] := by
    unfold xsW
    rw [← List.map_take, ← List.map_take, (qF_get h hn).1, List.map_append]; rfl
  exact ⟨h1, by rw [← h1]; exact List.take_prefix _ _⟩
theorem xsW_end {o : List Snp} {l : List (List UInt8)} (h : 32 * l.length + rawsL o ≤ 32 * 1000000) {n : Nat} (hn : (qAt o l n).length ≤ n) : (xsW o l).take n = xsW o l := by
  unfold xsW
  rw [qF_of_end h hn, List.take_of_length_le (by rw [List.length_map]; exact hn)]
theorem mem_snoc_dec (Q : List (List UInt8)) (y k : List UInt8) : (if k = y then true else decide (k ∈ Q)) = decide (k ∈ Q ++ [y]) := by
  by_cases h : k = y
  · rw [if_pos h]; simp [h]
  · rw [if_neg h]; simp [h]

set_option maxHeartbeats 2000000 in
theorem fwalk_walk (lv fv : Value) (w : World) (hl : ∃ a n c, lv = .slice a n c) (hf : ∃ a n c, fv = .slice a n c) :
    Calls Tryz.prog 51 #[lv, fv] w fun e w' => e = .returned (.func (.func 73) #[] #[.pointer (some ⟨w.heap.size + 1, 0, none⟩), .pointer (some ⟨w.heap.size, 0, none⟩)]) ∧ w' = (w.alloc (.cells #[lv] 22)).alloc (.cells #[fv] 23) := by
  obtain ⟨a, n, c, rfl⟩ := hl
  obtain ⟨a', n', c', rfl⟩ := hf
  go_enter Tryz.func51, Tryz.ntmps51
  go_wp2
  go_ret
  exact ⟨rfl, rfl⟩

set_option maxHeartbeats 8000000 in
set_option maxRecDepth 100000 in
theorem walk_iter (bo ba bf bl : Nat) (fa la : Option Addr) (fc lc : Nat) (o : List Snp) (l : List (List UInt8)) (we w : World)
    (hbf : Boxed w bf 23 (.slice fa l.length fc)) (hbl : Boxed w bl 22 (.slice la o.length lc)) (hr : StrRow we (.slice fa l.length fc) l) (ho : SnpRow we (.slice la o.length lc) o) (hT : ErrT we) (hko : KpO we.heap.size we w)
    (hws : we.heap.size ≤ w.heap.size) (hbo : we.heap.size ≤ bo ∧ bo < w.heap.size) (hba : we.heap.size ≤ ba ∧ ba < w.heap.size) (hfo : bf ≠ bo ∧ bf ≠ ba) (hlo : bl ≠ bo ∧ bl ≠ ba) (hout : outB bo w = none)
    (hup : upS (namesR o)) (hol : o.length ≤ 1100000) (hraw : ∀ x ∈ o, x.2.length ≤ 1000000) (hcnt : 32 * l.length + rawsL o ≤ 32 * 1000000) :
    IterOf2 Tryz.prog 73 #[.pointer (some ⟨bf, 0, none⟩), .pointer (some ⟨bl, 0, none⟩)] (fun A r => outB bo A ≠ some r) (KpF bo ba (w.heap.size + 1)) encW (xsW o l) w := by
  obtain ⟨i0, hi, hz0, hz1, hz2⟩ := info_parts infoStr
  intro ly J Jx W hKp hsz hJ hJx hY h0
  have hko2 : ∀ B : World, KpF bo ba (w.heap.size + 1) w B → KpO we.heap.size we B := fun _ h => h.first hbo.1 hba.1 (by omega) hout hws hko
  have hbox : ∀ (B : World) (k : Nat) (ob : Obj), KpF bo ba (w.heap.size + 1) w B → w.heap[k]? = some ob → k ≠ bo → k ≠ ba → B.heap[k]? = some ob := fun _ _ _ h hk h1 h2 => (h.old _ (heap_lt hk) h1 h2 (by have := heap_lt hk; omega) (by rw [hout]; simp)).trans hk
  have hlt : ∀ B : World, KpF bo ba (w.heap.size + 1) w B → ∀ g, outB bo B = some g → g < B.heap.size := fun _ h => h.lt (fun g hg => by rw [hout] at hg; cases hg)
  have HKO := Lib.hid hko2
  have HBX := Lib.hid hbox
  have HLT := Lib.hid hlt
  have hboN : bo < W.heap.size := by omega
  have cf : W.cell? ⟨bf, 0, none⟩ = some (.slice fa l.length fc) := Boxed.cell (t := 23) (hbox _ _ _ hKp hbf hfo.1 hfo.2)
  have C1 := kof2_walk (.slice fa l.length fc) l W ((hko2 _ hKp).str rfl hr) (by omega)
  have HJ := Lib.hid hJ
  have HJX := Lib.hid hJx
  have HY := Lib.hid hY
  have HSTEP := Lib.hid (fun (s : List (List UInt8 × Bool)) (A B : World) (row : Option Nat) (h1 : J s A) (h2 : KpF bo ba (w.heap.size + 1) w A) (hg : A.grownBy B row) (h3 : ∀ r, row = some r → W.heap.size ≤ r ∧ outB bo A ≠ some r) =>
    show J s B ∧ KpF bo ba (w.heap.size + 1) w B ∧ outB bo B = outB bo A from ⟨hJ s A B row h1 hg h3, h2.grown hg (fun r e => by have := (h3 r e).1; omega) hbo.2, outB_same (hg.block bo (by have := h2.size; omega) (fun e => by have := (h3 bo e.symm).1; omega))⟩)
  have HBF := Lib.hid hbf
  have HBL := Lib.hid hbl
  have HO := Lib.hid ho
  have HT := Lib.hid hT
  have HK0 := Lib.hid hKp
  have H0 := Lib.hid h0
  have HCNT := Lib.hid hcnt
  have HRAW := Lib.hid hraw
  have HUP := Lib.hid hup
  have HSZ := Lib.hid hsz
  have HBO := Lib.hid hbo
  have HBA := Lib.hid hba
  have HLO := Lib.hid hlo
  have HQ0 := Lib.hid (show setOf l = qAt o l 0 from rfl)
  clear hko2 hbox hlt hJ hJx hY hbf hbl hr ho hT hko hKp h0 hraw hup hsz hout hfo hlo hws
  refine (callsIn_wide (n := 3)).1 ?_
  refine callsIn_of_wp Tryz.func73 rfl trivial ?_ rfl
  simp only [Tryz.ntmps73, List.size_toArray, List.length_cons, List.length_nil, Nat.reduceAdd, Nat.reduceSub, Array.replicate_succ, Array.replicate_zero, List.push_toArray, List.append_toArray, List.nil_append, List.cons_append]
  gi_wp2_with fail
  refine ⟨trivial, (callsIn_wide.2 C1).mono ?_⟩
  rintro e w1 ⟨v1, rfl, ho1, hb1⟩
  obtain ⟨va, vc, rfl, -⟩ := StrRow.of_owns ho1
  have hmk : Sem.run Tryz.prog (Instr.makeMap 122 none) w1 = Result.ok (Value.map (some w1.heap.size)) (w1.alloc (.map #[] 0)) := rfl
  obtain ⟨w2, hw2, hmap, HG2, HON2, hsz2⟩ : ∃ w2, w2 = w1.alloc (.map #[] 0) ∧ BMap w2 w1.heap.size 0 (fun _ => false) ∧ Hid (W.grownBy w2 none) ∧ Hid (w2.ownsRow W.heap.size 9 1 (.slice va (setOf l).length vc) (setOf l).length ((setOf l).map S)) ∧ w1.heap.size < w2.heap.size :=
    ⟨_, rfl, BMap.made w1, Lib.hid (grown_of_belowF (hb1.alloc hb1.size _)), Lib.hid (ho1.alloc _), by simp⟩
  have hmbN : W.heap.size ≤ w1.heap.size := hb1.size
  generalize hmb : w1.heap.size = mb at *
  have HK2 := Lib.hid (HK0.out.grown HG2.out (fun r e => by cases e) HBO.out.2)
  have HJ2 := Lib.hid (HJ.out _ _ _ _ H0.out HG2.out (fun r e => by cases e))
  have HOB2 := Lib.hid (show outB bo w2 = outB bo W from outB_same (HG2.out.block _ hboN (by simp)))
  clear C1 ho1 hb1
  gi_wp2
  rw [← hw2]
  rw [HQ0.out]
  clear hw2 hmk
  rw [HQ0.out] at HON2
  have hq0len : (qAt o l 0).length ≤ 1000000 := qAt_len HCNT.out 0
  have HQ32 := Lib.hid (fun x (hx : x ∈ qAt o l 0) => show x.length = 32 from (setOf_mem.1 hx).2)
  have hmap0 : BMap w2 mb 0 (fun k => decide (k ∈ (qAt o l 0).take 0)) := hmap.as (fun k => by simp)
  have HM0 := Lib.hid hmap0
  clear hmap hmap0
  gi_loopw [20] (fun i wr => ∃ n : Nat, n ≤ (qAt o l 0).length ∧ i = .int .i64 n ∧ BMap wr mb n (fun k => decide (k ∈ (qAt o l 0).take n)) ∧ (J [] wr ∧ KpF bo ba (w.heap.size + 1) w wr ∧ outB bo wr = outB bo W) ∧ wr.ownsRow W.heap.size 9 1 (.slice va (qAt o l 0).length vc) (qAt o l 0).length ((qAt o l 0).map S)) (fun i _ => (qAt o l 0).length - (intOf i).toNat)
  case atStart => exact ⟨0, Nat.zero_le _, rfl, HM0.out, ⟨HJ2.out, HK2.out, HOB2.out⟩, HON2.out⟩
  case round =>
    obtain ⟨n, hn, rfl, hmap, ⟨hj, hkp, hob⟩, hown⟩ := hrel
    have HMAP := Lib.hid hmap
    have HJR := Lib.hid hj
    have HKR := Lib.hid hkp
    have HOB := Lib.hid hob
    have HOWN := Lib.hid hown
    have hmbw := hmap.lt
    clear hj hob
    by_cases h1 : n < (qAt o l 0).length
    · have h1' : (n : Int) < ((qAt o l 0).length : Int) := by omega
      obtain ⟨a, c, hv, hc, hm, hx⟩ := StrRow.of_owns hown
      obtain ⟨e1, e2⟩ : va = a ∧ vc = c := by cases hv; exact ⟨rfl, rfl⟩
      subst e1 e2
      clear hv
      rcases hx with hx | ⟨b, o', rfl, hx⟩
      · exfalso; rw [hx] at h1; simp at h1
      have hc1 := str_cell hx h1
      have HTK := Lib.hid (List.take_succ_eq_append_getElem h1)
      have hk32 := HQ32.out _ (List.getElem_mem h1)
      obtain ⟨w5, hrun, hbm5, hg5⟩ := hmap.update (T := 122) Tryz.underlying122 (by unfold maxLen; omega) (key := (qAt o l 0)[n]) (by rw [hk32]; decide) true
      have HBM5 := Lib.hid hbm5
      have HG5 := Lib.hid hg5
      have HAP := Lib.hid (hmap.apart hown)
      clear hx hown hmap hkp hbm5 hg5 hk32
      generalize (qAt o l 0)[n] = y at *
      gi_wp2
      go_roundw
      case rel =>
        have hne : ∀ r, some mb = some r → W.heap.size ≤ r ∧ outB bo wr ≠ some r := fun r e => by
          cases e
          refine ⟨hmbN, fun h => ?_⟩
          rw [HOB.out] at h
          have := HLT.out _ HK0.out _ h
          omega
        refine ⟨n + 1, by omega, by go_num, HBM5.out.as (fun k => by rw [HTK.out]; exact mem_snoc_dec _ _ _), ⟨HJ.out _ _ _ _ HJR.out HG5.out hne, HKR.out.grown HG5.out (fun r e => by cases e; have := HSZ.out; omega) HBO.out.2, ?_⟩, HOWN.out.kept HG5.out (.inr HAP.out)⟩
        rw [← HOB.out]
        exact outB_same (HG5.out.block bo (by have := HKR.out.size; have := HBO.out; omega) (fun e => by cases e; have := HBO.out; have := HSZ.out; omega))
      case measure => simp [intOf]; omega
    · have h1' : ¬ (n : Int) < ((qAt o l 0).length : Int) := by omega
      obtain rfl : n = (qAt o l 0).length := by omega
      have HM1 := Lib.hid (hmap.as (g := fun k => decide (k ∈ qAt o l 0)) (fun k => by rw [List.take_of_length_le (Nat.le_refl _)]))
      clear hmap hown hkp
      gi_wp2
      gi_loopw [4, 8] (fun qv i wr => ∃ n : Nat, n ≤ (qAt o l n).length ∧ i = .int .i64 n ∧ BMap wr mb (qAt o l n).length (fun k => decide (k ∈ qAt o l n)) ∧ (J ((xsW o l).take n) wr ∧ KpF bo ba (w.heap.size + 1) w wr ∧ (∀ g, outB bo wr = some g → g ≠ mb ∧ qv.ownBlock ≠ some g)) ∧ wr.ownsRow W.heap.size 9 1 qv (qAt o l n).length ((qAt o l n).map S)) (fun _ i _ => 1000001 - (intOf i).toNat)
      case atStart =>
        refine ⟨0, Nat.zero_le _, rfl, HM1.out, ⟨HJR.out, HKR.out, fun g hg => ?_⟩, HOWN.out⟩
        rw [HOB.out] at hg
        have h7 := HLT.out _ HK0.out _ hg
        exact ⟨by omega, fun h8 => by have := (HOWN.out.lt _ h8).1; omega⟩
      case round =>
        clear HM1 HMAP HJR HKR HOB HOWN HM0 HQ32
        obtain ⟨n, hn, rfl, hmap, ⟨hj, hkp, hsep⟩, hown⟩ := hrel
        have HMAP := Lib.hid hmap
        have HJR := Lib.hid hj
        have HKR := Lib.hid hkp
        have HSEP := Lib.hid hsep
        have HOWN := Lib.hid hown
        have hql := qAt_len HCNT.out n
        clear hj hsep hmap
        by_cases h1 : n < (qAt o l n).length
        · have h1' : (n : Int) < ((qAt o l n).length : Int) := by omega
          obtain ⟨a, c, rfl, hc, hm, hx⟩ := StrRow.of_owns hown
          rcases hx with hx | ⟨b, o', rfl, hx⟩
          · exfalso; rw [hx] at h1; simp at h1
          have hc1 := str_cell hx h1
          obtain ⟨HTK, HPX⟩ : Hid ((xsW o l).take (n + 1) = (xsW o l).take n ++ [((qAt o l n)[n], okO o (qAt o l n)[n])]) ∧ Hid ((xsW o l).take n ++ [((qAt o l n)[n], okO o (qAt o l n)[n])] <+: xsW o l) := ⟨Lib.hid (xsW_take HCNT.out h1).1, Lib.hid (xsW_take HCNT.out h1).2⟩
          have HMORE := Lib.hid (qAt_more (o := o) (l := l) (n := n) (List.getElem?_eq_getElem h1))
          have HL2 := Lib.hid (qAt_len HCNT.out (n + 1))
          clear hx hown
          generalize (qAt o l n)[n] = k at *
          have hbl : wr.cell? ⟨bl, 0, none⟩ = some (.slice la o.length lc) := Boxed.cell (t := 22) (HBX.out _ _ _ hkp HBL.out HLO.out.1 HLO.out.2)
          have hro : SnpRow wr (.slice la o.length lc) o := (HKO.out _ hkp).snp rfl HO.out
          have hTr : ErrT wr := (World.cell?_of_block (a := ⟨0, 0, none⟩) (HKO.out _ hkp _ (lt_of_cell HT.out))).trans HT.out
          have CG := fun p : LaterOf wr => pget_walk (.slice la o.length lc) o k p.world (hro.below p.below) hol HUP.out
          have l0 := LaterOf.cell hbl
          have l1 := LaterOf.cell hc1
          have HRL := Lib.hid (show (rootOf (findR o k)).length ≤ 1000000 by
            cases hf : findR o k with
            | none => simp [rootOf]
            | some r =>
              unfold findR at hf
              rw [Option.map_eq_some_iff] at hf
              obtain ⟨x, hx, rfl⟩ := hf
              exact HRAW.out x (List.mem_of_find?_eq_some hx))
          have HTOT := Lib.hid (fun h => read_tot (s := rootOf (findR o k)) h)
          have HKB := Lib.hid (fun h => kids_bound (s := rootOf (findR o k)) h)
          have HC1 := Lib.hid hc1
          have HTR := Lib.hid hTr
          clear hbl hro hTr hc1 hkp
          gi_wp2_with fail
          (refine wpIn_tail_later 5 6 rfl (by kernel_rfl) (by kernel_rfl) (by kernel_rfl) (by kernel_rfl) (by kernel_rfl) ?_; simp only [List.take_succ_cons, List.take_zero]; (repeat (gi_big_quiet_step (fail))); refine wpQuietIn_nil ?_; intro _ hw1; obtain ⟨lw, hw2⟩ := hw1; subst hw2)
          refine wpAnyIn_ready (rs := [5]) (by kernel_rfl) (by simp) ?_
          refine AllReadyIn.cons rfl (fun K hK => ?_) AllReadyIn.nil
          go_simp
          refine ⟨trivial, (callsIn_wide.2 (CG lw)).mono ?_⟩
          rintro e w2 ⟨rfl, hb2⟩
          have HB2 := Lib.hid (lw.below.trans (hb2.mono lw.below.size))
          refine hK _ _ ?_
          clear hK K CG l0 l1 hb2
          (refine wpAnyIn_take (i := 6) (v := ?_) rfl rfl (by kernel_rfl) (by kernel_rfl) (by kernel_rfl) (fun _ _ _ h => h) ⟨Or.inl ⟨by rfl, ?_⟩, fun _ => rfl⟩ ?_; rotate_left; (intro w9; go_simp; try with_reducible rfl))
          (refine wpAnyIn_take (i := 7) (v := ?_) rfl rfl (by kernel_rfl) (by kernel_rfl) (by kernel_rfl) (fun _ _ _ h => h) ⟨Or.inl ⟨by rfl, ?_⟩, fun _ => rfl⟩ ?_; rotate_left; (intro w9; go_simp; try with_reducible rfl))
          (refine wpAnyIn_take (i := 8) (v := ?_) rfl rfl (by kernel_rfl) (by kernel_rfl) (by kernel_rfl) (fun _ _ _ h => h) ⟨Or.inl ⟨by rfl, ?_⟩, fun _ => rfl⟩ ?_; rotate_left; (intro w9; go_simp; try with_reducible rfl))
          (refine wpAnyIn_take (i := 9) (v := ?_) rfl rfl (by kernel_rfl) (by kernel_rfl) (by kernel_rfl) (fun _ _ _ h => h) ⟨Or.inl ⟨by rfl, ?_⟩, fun _ => rfl⟩ ?_; rotate_left; (intro w9; go_simp; try with_reducible rfl))
          (refine wpAnyIn_take (i := 10) (v := ?_) rfl rfl (by kernel_rfl) (by kernel_rfl) (by kernel_rfl) (fun _ _ _ h => h) ⟨Or.inl ⟨by rfl, ?_⟩, fun _ => rfl⟩ ?_; rotate_left; (intro w9; go_simp; try with_reducible rfl))
          refine wpAnyIn_done (by kernel_rfl) ?_ _
          have CR := pread2_walk (rootOf (findR o k)) w2 (HTR.out.below HB2.out) HRL.out
          obtain ⟨kb, hkb⟩ : ∃ kb, okO o k = kb := ⟨_, rfl⟩
          rw [hkb] at HTK HPX
          cases kb with
          | false =>
            have HN := Lib.hid (show qAt o l (n + 1) = qAt o l n by rw [HMORE.out, okO_no hkb]; rfl)
            have HIS := Lib.hid (show ¬ ((findR o k).isSome = true ∧ (readN (rootOf (findR o k))).2 = 0) from fun h => by unfold okO at hkb; rw [h.1, h.2] at hkb; simp at hkb)
            clear hkb HTOT HKB HMORE
            generalize rootOf (findR o k) = raw at *
            generalize (findR o k).isSome = is at *
            gi_wp2_with fail
            refine ⟨trivial, (callsIn_wide.2 CR).mono ?_⟩
            rintro e w3 ⟨vp, ve, rfl, hnr, -, hb3⟩
            obtain ⟨pa, pc, rfl⟩ := row_slice hnr.parts
            obtain ⟨ua, uc, rfl⟩ := row_slice hnr.ents
            obtain ⟨w4, hw4, HB4⟩ : ∃ w4, w4 = w3.alloc (.cells #[.int .i64 (readN raw).1.kind, S (readN raw).1.data, .slice pa (readN raw).1.parts.length pc, .slice ua (readN raw).1.ents.length uc] 36) ∧ Hid (Below wr.heap.size wr w4) :=
              ⟨_, rfl, Lib.hid ((HB2.out.trans (hb3.mono HB2.out.size)).alloc (by have := hb3.size; have := HB2.out.size; omega) _)⟩
            obtain ⟨hj4, hk4, ho4⟩ := HSTEP.out _ _ _ _ HJR.out HKR.out (grown_of_belowF HB4.out) (fun r e => by cases e)
            have hc4 := cell_below HB4.out HC1.out
            obtain ⟨fn, tmps, assign, body, hy, hR⟩ := HY.out _ _ w4 hj4 HPX.out
            have HK4 := Lib.hid hk4
            simp only [encW] at hy
            obtain ⟨er, her⟩ : ∃ er, (readN raw).2 = er := ⟨_, rfl⟩
            rw [her] at HIS ⊢
            clear CR hb3 hnr hj4 hk4 ho4 her
            have HEND := Lib.hid (fun (w5 : World) (hk5 : KpF bo ba (w.heap.size + 1) w4 w5) (hj5 : J ((xsW o l).take n ++ [(k, false)]) w5) =>
              show ∃ n' : Nat, n' ≤ (qAt o l n').length ∧ Value.int .i64 ((n : Int) + 1) = .int .i64 n' ∧ BMap w5 mb (qAt o l n').length (fun k => decide (k ∈ qAt o l n')) ∧ (J ((xsW o l).take n') w5 ∧ KpF bo ba (w.heap.size + 1) w w5 ∧ (∀ g, outB bo w5 = some g → g ≠ mb ∧ (Value.slice (some ⟨b, o', none⟩) (qAt o l n).length c).ownBlock ≠ some g)) ∧ w5.ownsRow W.heap.size 9 1 (.slice (some ⟨b, o', none⟩) (qAt o l n).length c) (qAt o l n').length ((qAt o l n').map S) ∧ n' = n + 1 from by
                obtain ⟨k1, k2, k3⟩ := keepF (N := W.heap.size) HB4.out hk5 hboN (by have := HBA.out; have := HSZ.out; omega) (by have := HSZ.out; omega) hmbN (by have := HKR.out.size; have := HBO.out; omega) HMAP.out HOWN.out HSEP.out
                refine ⟨n + 1, by rw [HN.out]; omega, by go_num, by rw [HN.out]; exact k1, ⟨by rw [HTK.out]; exact hj5, HK4.out.trans hk5, k3⟩, by rw [HN.out]; exact k2, rfl⟩)
            subst hw4
            cases is with
            | false =>
              gi_wp2_with fail
              refine hR.mono ?_
              rintro e w5 (⟨rfl, hj5, hk5⟩ | ⟨rfl, hjx5⟩)
              · obtain ⟨n', q1, q2, q3, q4, q5, rfl⟩ := HEND.out w5 hk5 hj5
                have HQ := Lib.hid (And.intro q1 (And.intro q2 (And.intro q3 (And.intro q4 q5))))
                clear q1 q2 q3 q4 q5 hj5 hk5 hR hy hc4
                gi_wp2
                go_roundw
                case rel => exact ⟨n + 1, HQ.out.1, HQ.out.2.1, HQ.out.2.2.1, HQ.out.2.2.2.1, HQ.out.2.2.2.2⟩
                case measure => simp [intOf]; omega
              · have HX5 := Lib.hid hjx5
                clear hjx5 hR hy hc4
                gi_wp2
                refine bodyPost_ret (results_none rfl _ _ _) rfl ?_
                exact ⟨⟨_, rfl⟩, .inr ⟨_, HPX.out, HX5.out⟩⟩
            | true =>
              have hne : (er == 0) = false := by rw [beq_eq_false_iff_ne]; exact fun h => HIS.out ⟨rfl, h⟩
              gi_wp2_with fail
              refine hR.mono ?_
              rintro e w5 (⟨rfl, hj5, hk5⟩ | ⟨rfl, hjx5⟩)
              · obtain ⟨n', q1, q2, q3, q4, q5, rfl⟩ := HEND.out w5 hk5 hj5
                have HQ := Lib.hid (And.intro q1 (And.intro q2 (And.intro q3 (And.intro q4 q5))))
                clear q1 q2 q3 q4 q5 hj5 hk5 hR hy hc4
                gi_wp2
                go_roundw
                case rel => exact ⟨n + 1, HQ.out.1, HQ.out.2.1, HQ.out.2.2.1, HQ.out.2.2.2.1, HQ.out.2.2.2.2⟩
                case measure => simp [intOf]; omega
              · have HX5 := Lib.hid hjx5
                clear hjx5 hR hy hc4
                gi_wp2
                refine bodyPost_ret (results_none rfl _ _ _) rfl ?_
                exact ⟨⟨_, rfl⟩, .inr ⟨_, HPX.out, HX5.out⟩⟩
          | true =>
            obtain ⟨hy1, hy2, hy3⟩ := okO_yes hkb
            rw [hy3] at HMORE
            have HTOT2 := Lib.hid (HTOT.out hy2)
            have HKB2 := Lib.hid (HKB.out hy2)
            have HE := Lib.hid hy2
            rw [hy1]
            clear hkb HTOT HKB hy1 hy2 hy3
            generalize rootOf (findR o k) = raw at *
            gi_wp2_with fail
            refine ⟨trivial, (callsIn_wide.2 CR).mono ?_⟩
            rintro e w3 ⟨vp, ve, rfl, hnr, hvb, hb3⟩
            obtain ⟨pa, pc, rfl⟩ := row_slice hnr.parts
            obtain ⟨ua, uc, rfl⟩ := row_slice hnr.ents
            obtain ⟨w4, hw4, HB4, hz4, hsz4⟩ : ∃ w4, w4 = w3.alloc (.cells #[.int .i64 (readN raw).1.kind, S (readN raw).1.data, .slice pa (readN raw).1.parts.length pc, .slice ua (readN raw).1.ents.length uc] 36) ∧ Hid (Below wr.heap.size wr w4) ∧ w4.heap[w3.heap.size]? = some (.cells #[.int .i64 (readN raw).1.kind, S (readN raw).1.data, .slice pa (readN raw).1.parts.length pc, .slice ua (readN raw).1.ents.length uc] 36 (0, 0)) ∧ w3.heap.size < w4.heap.size :=
              ⟨_, rfl, Lib.hid ((HB2.out.trans (hb3.mono HB2.out.size)).alloc (by have := hb3.size; have := HB2.out.size; omega) _), heap_alloc_new _ _, by simp⟩
            have HNR4 := Lib.hid (hnr.below (show Below w3.heap.size w3 w4 by rw [hw4]; exact (Below.refl _ _).alloc (Nat.le_refl _) _))
            have HVB := Lib.hid hvb
            have HZ4 := Lib.hid hz4
            have HW23 := Lib.hid (show wr.heap.size ≤ w2.heap.size ∧ w2.heap.size ≤ w3.heap.size from ⟨HB2.out.size, hb3.size⟩)
            have HS34 := Lib.hid hsz4
            obtain ⟨hj4, hk4, ho4⟩ := HSTEP.out _ _ _ _ HJR.out HKR.out (grown_of_belowF HB4.out) (fun r e => by cases e)
            have hc4 := cell_below HB4.out HC1.out
            obtain ⟨fn, tmps, assign, body, hy, hR⟩ := HY.out _ _ w4 hj4 HPX.out
            have HK4 := Lib.hid hk4
            simp only [encW] at hy
            have her := HE.out
            rw [her]
            have HEND := Lib.hid (fun (w5 : World) (hk5 : KpF bo ba (w.heap.size + 1) w4 w5) =>
              show (BMap w5 mb (qAt o l n).length (fun k => decide (k ∈ qAt o l n)) ∧ w5.ownsRow W.heap.size 9 1 (.slice (some ⟨b, o', none⟩) (qAt o l n).length c) (qAt o l n).length ((qAt o l n).map S) ∧ (∀ g, outB bo w5 = some g → g ≠ mb ∧ (Value.slice (some ⟨b, o', none⟩) (qAt o l n).length c).ownBlock ≠ some g)) ∧
                (∀ j, wr.heap.size ≤ j → j < w4.heap.size → w5.heap[j]? = w4.heap[j]?) ∧ w4.heap.size ≤ w5.heap.size from
                ⟨keepF (N := W.heap.size) HB4.out hk5 hboN (by have := HBA.out; have := HSZ.out; omega) (by have := HSZ.out; omega) hmbN (by have := HKR.out.size; have := HBO.out; omega) HMAP.out HOWN.out HSEP.out,
                  fun j h1 h2 => keepNew (N := W.heap.size) HB4.out hk5 hboN (by have := HBA.out; have := HSZ.out; omega) (by have := HSZ.out; omega) (by have := HMAP.out.lt; omega) (HLT.out _ HKR.out) h1 h2, hk5.size⟩)
            clear CR hb3 hnr hvb hz4 hsz4 hj4 hk4 ho4 her
            subst hw4
            gi_wp2_with fail
            refine hR.mono ?_
            rintro e w5 (⟨rfl, hj5, hk5⟩ | ⟨rfl, hjx5⟩)
            · obtain ⟨⟨hm5, hown5, hsep5⟩, hnew, hs45⟩ := HEND.out w5 hk5
              have hz5 := (hnew w3.heap.size (by have := HW23.out; omega) HS34.out).trans HZ4.out
              have hnr5 : NodRow w5 (readN raw).1 (.slice pa (readN raw).1.parts.length pc) (.slice ua (readN raw).1.ents.length uc) :=
                ⟨row_block HNR4.out.parts (fun j hj hlt => hnew j (by have := HVB.out.1 j hj; have := HW23.out; omega) hlt), row_block HNR4.out.ents (fun j hj hlt => hnew j (by have := HVB.out.2 j hj; have := HW23.out; omega) hlt)⟩
              obtain ⟨⟨z0, z1, z2, z3⟩, -, -⟩ := box4 hz5
              have CK := pkids2_walk (.slice pa (readN raw).1.parts.length pc) (.slice ua (readN raw).1.ents.length uc) (readN raw).1 w5 hnr5 (by have := HTOT2.out; omega)
              have HJ5 := Lib.hid hj5
              have HKP5 := Lib.hid (HK4.out.trans hk5)
              have HM5 := Lib.hid hm5
              have HOWN5 := Lib.hid hown5
              have HSEP5 := Lib.hid hsep5
              clear hR hy hc4 hj5 hk5 hm5 hown5 hsep5 hnew hs45 hz5 hnr5 HEND HNR4 HVB HZ4 HW23 HS34 HK4 HB4
              gi_wp2_with fail
              refine ⟨trivial, (callsIn_wide.2 CK).mono ?_⟩
              rintro e w6 ⟨v6, rfl, hr6, hb6⟩
              obtain ⟨ka, kn, kc, rfl⟩ := own_slice hr6
              obtain ⟨kids, hkids⟩ : ∃ kids, kidsN (readN raw).1 = kids := ⟨_, rfl⟩
              have HKB3 := Lib.hid (show kids.length ≤ 1084 by rw [← hkids]; exact HKB2.out)
              rw [hkids] at hr6 HMORE
              have hkn : kn = kids.length := by
                obtain ⟨a7, c7, h7, -⟩ := StrRow.of_owns hr6
                cases h7; rfl
              subst hkn
              obtain ⟨hj6, hk6, ho6⟩ := HSTEP.out _ _ _ _ HJ5.out HKP5.out (grown_of_belowF hb6) (fun r e => by cases e)
              have HJ6 := Lib.hid hj6
              have HKP6 := Lib.hid hk6
              have HM6 := Lib.hid (HM5.out.kept hb6)
              have HOWN6 := Lib.hid (own_block (w' := w6) HOWN5.out (fun g hg => hb6.block g (HOWN5.out.lt g hg).2))
              have HSEP6 := Lib.hid (show ∀ g, outB bo w6 = some g → g ≠ mb ∧ (Value.slice (some ⟨b, o', none⟩) (qAt o l n).length c).ownBlock ≠ some g from fun g hg => HSEP5.out g (by rw [← ho6]; exact hg))
              have HKR6 := Lib.hid hr6
              have HAPK := Lib.hid (show (Value.slice ka kids.length kc).ownBlock = none ∨ (Value.slice ka kids.length kc).ownBlock ≠ (Value.slice (some ⟨b, o', none⟩) (qAt o l n).length c).ownBlock from by
                cases hvb : (Value.slice ka kids.length kc).ownBlock with
                | none => exact .inl rfl
                | some g =>
                  refine .inr fun h8 => ?_
                  have h7 := (hr6.lt g hvb).1
                  have h9 := (HOWN5.out.lt g h8.symm).2
                  omega)
              have HK32 := Lib.hid (fun x (hx : x ∈ kids) => show x.length ≤ maxLen from by rw [← hkids] at hx; rw [kidsN_32 hx]; decide)
              have hw5N : W.heap.size ≤ w5.heap.size := by have := (HOWN5.out.lt b rfl); omega
              obtain ⟨Q, hQ⟩ : ∃ Q, qAt o l n = Q := ⟨_, rfl⟩
              have HQL := Lib.hid (show n + 1 ≤ Q.length by rw [← hQ]; omega)
              have HMQ := Lib.hid (show qAt o l (n + 1) = pushQ Q kids by rw [← hQ]; exact HMORE.out)
              have hqlQ : Q.length ≤ 1000000 := by rw [← hQ]; exact hql
              rw [hQ] at HM6 HOWN6 HSEP6 HAPK
              clear CK hb6 hj6 hk6 ho6 hr6 z0 z1 z2 z3 HJ5 HKP5 HM5 HOWN5 HSEP5 HMORE hkids HTOT2 HKB2 HE HMAP HJR HKR HSEP HOWN HB2 HC1 HTR
              rw [hQ]
              gi_wp2
              gi_loopw [4, 65] (fun qv i wt => ∃ t : Nat, t ≤ kids.length ∧ i = .int .i64 t ∧ BMap wt mb (pushQ Q (kids.take t)).length (fun x => decide (x ∈ pushQ Q (kids.take t))) ∧ (J ((xsW o l).take n ++ [(k, true)]) wt ∧ KpF bo ba (w.heap.size + 1) w wt ∧ (∀ g, outB bo wt = some g → g ≠ mb ∧ qv.ownBlock ≠ some g)) ∧ wt.ownsRow W.heap.size 9 1 qv (pushQ Q (kids.take t)).length ((pushQ Q (kids.take t)).map S) ∧ wt.ownsRow w5.heap.size 9 1 (.slice ka kids.length kc) kids.length (kids.map S) ∧ ((Value.slice ka kids.length kc).ownBlock = none ∨ (Value.slice ka kids.length kc).ownBlock ≠ qv.ownBlock)) (fun _ i _ => kids.length - (intOf i).toNat)
              case atStart => exact ⟨0, Nat.zero_le _, rfl, HM6.out, ⟨HJ6.out, HKP6.out, HSEP6.out⟩, HOWN6.out, HKR6.out, HAPK.out⟩
              case round =>
                clear HM6 HJ6 HKP6 HSEP6 HOWN6 HKR6 HAPK
                obtain ⟨t, ht, rfl, hmap, ⟨hj, hkp, hsep⟩, hown, hkow, hapk⟩ := hrel
                have HMAP := Lib.hid hmap
                have HJR := Lib.hid hj
                have HKR := Lib.hid hkp
                have HSEP := Lib.hid hsep
                have HOWN := Lib.hid hown
                have HKOW := Lib.hid hkow
                have HAPK := Lib.hid hapk
                have hkb := HKB3.out
                have hpl := pushQ_len (kids.take t) Q
                rw [List.length_take, Nat.min_eq_left ht] at hpl
                clear hj hsep hapk hkp
                by_cases h2 : t < kids.length
                · have h2' : (t : Int) < (kids.length : Int) := by omega
                  obtain ⟨a7, c7, hv7, -, -, hkx⟩ := StrRow.of_owns hkow
                  obtain ⟨e1, e2⟩ : ka = a7 ∧ kc = c7 := by cases hv7; exact ⟨rfl, rfl⟩
                  subst e1 e2
                  clear hv7
                  rcases hkx with hkx | ⟨kb, ko, rfl, hkx⟩
                  · exfalso; rw [hkx] at h2; simp at h2
                  have hc2 := str_cell hkx h2
                  have HST := Lib.hid (pushQ_step (q := Q) h2)
                  have HY32 := Lib.hid (show kids[t].length ≤ maxLen from HK32.out _ (List.getElem_mem h2))
                  clear hkx hkow
                  generalize kids[t] = y at *
                  generalize pushQ Q (kids.take t) = Q2 at *
                  obtain ⟨qa, qn, qc, rfl⟩ := own_slice hown
                  have hlook := hmap.look (T := 122) Tryz.underlying122 HY32.out
                  by_cases hin : y ∈ Q2
                  · have HS := Lib.hid (show pushQ Q (kids.take (t + 1)) = Q2 by rw [HST.out, if_pos hin])
                    rw [decide_eq_true hin] at hlook
                    clear hin HST hown hmap
                    gi_wp2
                    go_roundw
                    case rel => exact ⟨t + 1, by omega, by go_num, by rw [HS.out]; exact HMAP.out, ⟨HJR.out, HKR.out, HSEP.out⟩, by rw [HS.out]; exact HOWN.out, HKOW.out, HAPK.out⟩
                    case measure => simp [intOf]; omega
                  · have HS := Lib.hid (show pushQ Q (kids.take (t + 1)) = Q2 ++ [y] by rw [HST.out, if_neg hin])
                    rw [decide_eq_false hin] at hlook
                    obtain ⟨w7, hrun, hbm7, hg7⟩ := hmap.update (T := 122) Tryz.underlying122 (by unfold maxLen; omega) HY32.out true
                    obtain ⟨hj7, hk7, ho7⟩ := HSTEP.out _ _ _ _ HJR.out HKR.out hg7 (fun r e => by cases e; exact ⟨hmbN, fun h => (HSEP.out _ h).1 rfl⟩)
                    have hown7 := hown.kept hg7 (.inr (hmap.apart hown))
                    have hkow7 := HKOW.out.kept hg7 (.inr (hmap.apart HKOW.out))
                    have HBM7 := Lib.hid hbm7
                    have HJ7 := Lib.hid hj7
                    have HKP7 := Lib.hid hk7
                    have HO7 := Lib.hid ho7
                    have HKOW7 := Lib.hid hkow7
                    have hN7 : W.heap.size ≤ w7.heap.size := by have := hk7.size; have := hbm7.lt; omega
                    have HMB7 := Lib.hid hbm7.lt
                    have HWT7 := Lib.hid hg7.size
                    clear hin HST hown hmap hg7 hj7 hk7 ho7 hkow7 hbm7
                    have hq2 : Q2.length ≤ 1001084 := by omega
                    gi_wp2_with (gi_at_builtin; refine wpListIn_append_sep _ rfl _ _ 23 rfl W.heap.size 9 i0 (.string ⟨#[]⟩) 1 16 Tryz.underlying23 hi hz0 hz1 hz2 rfl (by decide) _ _ _ rfl (hown7.alloc _) ⟨w7.heap.size, 0, none⟩ 1 1 [S y] rfl rfl (new_cell_at rfl _ _) (s_one _) (by unfold maxLen; omega) (by omega) (by rw [World.size_alloc]; omega) (by decide) ?_; intro v8 w8 hown8 hgrow8 hblk8)
                    go_roundw
                    case rel =>
                      obtain ⟨ja, ka2, oa⟩ := HSTEP.out _ _ _ _ HJ7.out HKP7.out (World.grownBy_alloc w7 (.cells #[S y] 9) none) (fun r e => by cases e)
                      have hoa : outB bo (w7.alloc (.cells #[S y] 9)) = outB bo wr := oa.trans HO7.out
                      obtain ⟨j8, k8, o8⟩ := HSTEP.out _ _ _ _ ja ka2 hgrow8 (fun r e => ⟨(HOWN.out.lt r e).1, fun h => (HSEP.out r (by rw [← hoa]; exact h)).2 e⟩)
                      have ho8 : outB bo w8 = outB bo wr := o8.trans hoa
                      have hmb8 : w8.heap[mb]? = w7.heap[mb]? := (hgrow8.block mb (by rw [World.size_alloc]; have := HMB7.out; omega) (fun e => HBM7.out.apart hown7 e.symm)).trans (Below.heap_alloc _ _ _ HMB7.out)
                      refine ⟨t + 1, by omega, by go_num, ?_, ⟨j8, k8, fun g hg => ?_⟩, ?_, (HKOW7.out.alloc _).kept hgrow8 HAPK.out, ?_⟩
                      · rw [HS.out, List.length_append]
                        exact (HBM7.out.block hmb8).as (fun x => mem_snoc_dec _ _ _)
                      · rw [ho8] at hg
                        have h7 := HSEP.out g hg
                        refine ⟨h7.1, fun h8 => ?_⟩
                        rcases hblk8 with h9 | h9
                        · rw [h9] at h8; exact h7.2 h8
                        · rw [h9] at h8
                          cases h8
                          have h10 := HLT.out _ HKR.out _ hg
                          rw [World.size_alloc] at h10
                          have h11 := HWT7.out
                          omega
                      · rw [HS.out, List.length_append, List.map_append]; exact hown8
                      · rcases hblk8 with h9 | h9
                        · rw [h9]; exact HAPK.out
                        · rw [h9]
                          refine .inr fun h10 => ?_
                          have h11 := (HKOW7.out.lt _ h10).2
                          rw [World.size_alloc] at h11
                          omega
                    case measure => simp [intOf]; omega
                · have h2' : ¬ (t : Int) < (kids.length : Int) := by omega
                  obtain rfl : t = kids.length := by omega
                  rw [List.take_of_length_le (Nat.le_refl _), ← HMQ.out] at HMAP HOWN
                  obtain ⟨qa, qn, qc, rfl⟩ := own_slice hown
                  have HLQ := Lib.hid (show n + 1 ≤ (qAt o l (n + 1)).length by
                    rw [HMQ.out]
                    obtain ⟨_, _, ⟨tl, htl⟩⟩ := pushQ_all kids Q
                    rw [← htl, List.length_append]; have := HQL.out; omega)
                  clear hown hkow hmap hpl
                  gi_wp2
                  go_roundw
                  case rel => exact ⟨n + 1, HLQ.out, by go_num, HMAP.out, ⟨by rw [HTK.out]; exact HJR.out, HKR.out, HSEP.out⟩, HOWN.out⟩
                  case measure => simp [intOf]; omega
            · have HX5 := Lib.hid hjx5
              clear hjx5 hR hy hc4
              gi_wp2
              refine bodyPost_ret (results_none rfl _ _ _) rfl ?_
              exact ⟨⟨_, rfl⟩, .inr ⟨_, HPX.out, HX5.out⟩⟩
        · have h1' : ¬ (n : Int) < ((qAt o l n).length : Int) := by omega
          have hrow := StrRow.of_owns hown
          obtain ⟨a, c, rfl, -⟩ := hrow
          have HFIN := Lib.hid (show J (xsW o l) wr by have h7 := HJR.out; rwa [xsW_end HCNT.out (by omega)] at h7)
          clear hown hkp HJR
          gi_wp2
          go_end0
          exact ⟨⟨_, rfl⟩, .inl HFIN.out⟩
end Go.Proofs.YtaompdnnkfmjhaaGreatDoor

namespace Go.Proofs.YtaompdnnkfmjhaaGreatDoor
open Go Go.RowKit

section
variable {F : Fence} {n : Nat} {P : Program} {ops : Array Oper} {md : Region.Mode} {Q : Exit → Act → World → Prop}

theorem semAt_free {o : Oper} (h : ∀ c, o.op ≠ .defer c) (ρ : Operand → Value) : o.semAt F.round ρ = execOp ρ o := Oper.semAt_plain F ρ o h
theorem yields_op {i : Nat} {o : Oper} {v : Value} {a : Act} (hd : ∀ c, o.op ≠ .defer c) (hi : ops[i]? = some o) (hy : YieldsFenced P ops o v a)
    {K : Act → World → Prop} {w : World} (h : K (a.put o.dst v) w) : wpOpIn F n P ops Q i K a w := by
  unfold Go.wpOpIn
  simp only [hi]
  have hab : ∀ f, o.about P w a.eval = some f → F.fn f := fun f hf => by rw [hy.2 w] at hf; cases hf
  rcases hy.1 with ⟨hw, hv⟩ | ⟨hw, rfl⟩
  · simp only [hw, if_true, Oper.wpIn, semAt_free hd, hv w, Oper.uponIn]; exact ⟨hab, h⟩
  · simp only [hw, Bool.false_eq_true, if_false]; exact ⟨hab, h⟩
theorem op_put {j : Nat} {oi oj : Oper} {v : Value} (hdj : ∀ c, oj.op ≠ .defer c) (hj : ops[j]? = some oj) (hap : oi.apart ops oj = true)
    (hsi : ∀ cs b, oi.op ≠ .select cs b) (hsj : ∀ cs b, oj.op ≠ .select cs b)
    (hQ : ∀ c a w, Q (.panic c) (a.put oi.dst v) w → Q (.panic c) a w) {K : Act → World → Prop} {a : Act} {w : World}
    (hy : YieldsFenced P ops oi v a) (h : wpOpIn F n P ops Q j K (a.put oi.dst v) w) :
    wpOpIn F n P ops Q j (fun a' w' => YieldsFenced P ops oi v a' ∧ K (a'.put oi.dst v) w') a w := by
  obtain ⟨h1, h2, h3⟩ := Oper.apart_spec hap
  have keep : ∀ (a : Act), YieldsFenced P ops oi v a → ∀ u, YieldsFenced P ops oi v (a.put oj.dst u) := fun a hy u =>
    hy.of_same (execOp_put oi hsi a oj.dst u h3) (wanted_put oi a oj.dst u h3) (fun w => about_put oi w a oj.dst u h3)
  have keepD : ∀ d, YieldsFenced P ops oi v { a with defers := d :: a.defers } := fun d => hy.of_same rfl rfl (fun _ => rfl)
  have back : ∀ (u : Value) (w' : World), K ((a.put oi.dst v).put oj.dst u) w' → K ((a.put oj.dst u).put oi.dst v) w' := fun u w' hk => by
    rw [← Act.put_comm a v u h2]; exact hk
  unfold wpOpIn at *
  simp only [hj] at *
  rw [wanted_put oj a oi.dst v h1, about_put oj w a oi.dst v h1] at h
  split
  · rename_i hw
    simp only [hw, if_true] at h
    unfold Oper.wpIn at *
    rw [about_put oj w a oi.dst v h1, semAt_free hdj, execOp_put oj hsj a oi.dst v h1] at h
    refine ⟨h.1, ?_⟩
    replace h := h.2
    rw [semAt_free hdj]
    generalize (execOp a.eval oj).run P w = r at *
    cases r with
    | halt x w' =>
      cases x <;> simp only [Oper.uponIn] at h ⊢
      exact hQ _ _ _ h
    | ok x w' =>
      cases x <;> simp only [Oper.uponIn] at h ⊢
      case value u => exact ⟨keep a hy u, back u _ h⟩
      case skip => exact ⟨keep a hy _, back undef _ h⟩
      case defer d =>
        refine ⟨keep _ (keepD d) _, ?_⟩
        rw [← Act.put_comm _ v undef h2, ← Act.put_defers]
        exact h
      case enter f args =>
        refine ⟨h.1, CallsIn.mono h.2 fun e w'' he => ?_⟩
        cases e with
        | returned u => exact ⟨keep a hy u, back u _ he⟩
        | panicked c => exact hQ _ _ _ he
        | outgrown => exact he
      case row row args => exact ⟨h.1, RowsIn.mono h.2 fun u w'' he => ⟨keep a hy u, back u _ he⟩⟩
      case round l f tmps assign body =>
        refine ⟨h.1, RoundIn.mono h.2 fun e w'' he => ?_⟩
        cases e with
        | returned u => exact ⟨keep a hy u, back u _ he⟩
        | panicked c => exact hQ _ _ _ he
        | outgrown => exact he
  · rename_i hw
    simp only [hw] at h
    exact ⟨h.1, keep a hy _, back undef _ h.2⟩
theorem any_first {i : Nat} {oi : Oper} {v : Value} (hd : ∀ (j : Nat) (o : Oper), ops[j]? = some o → ∀ c, o.op ≠ .defer c) (hi : ops[i]? = some oi) (hsel : ∀ (j : Nat) (o : Oper) cs b, ops[j]? = some o → o.op ≠ .select cs b)
    (hQ : ∀ c a w, Q (.panic c) (a.put oi.dst v) w → Q (.panic c) a w) :
    ∀ (fuel : Nat) (listed : Array Bool) (a : Act) (w : World),
      (∀ j oj, ops[j]? = some oj → j ≠ i → listed.getD j true = false → (∀ e ∈ oj.after, Region.binds md e = true → e.on ≠ i) → oi.apart ops oj = true) →
      i ∈ Region.ready md ops listed → YieldsFenced P ops oi v a →
      wpAnyIn F n P md ops Q fuel (listed.setIfInBounds i true) (a.put oi.dst v) w → wpAnyIn F n P md ops Q (fuel + 1) listed a w := by
  intro fuel
  induction fuel with
  | zero =>
    intro listed a w _ hr hy H
    refine ⟨fun h => (by rw [h] at hr; cases hr), fun j hj => ?_⟩
    by_cases hji : j = i
    · subst hji; exact yields_op (hd _ _ hi) hi hy H
    · have := ready_mono hj hji
      rw [H.1] at this
      cases this
  | succ fuel ih =>
    intro listed a w hfree hr hy H
    refine ⟨fun h => (by rw [h] at hr; cases hr), fun j hj => ?_⟩
    by_cases hji : j = i
    · subst hji; exact yields_op (hd _ _ hi) hi hy H
    · have h1 := H.2 j (ready_mono hj hji)
      obtain ⟨hjun, oj, hoj, hall⟩ := mem_ready.1 hj
      have hnot : ∀ e ∈ oj.after, Region.binds md e = true → e.on ≠ i := fun e he hb heq => by
        have h1 := hall e he hb
        have h0 := (mem_ready.1 hr).1
        rw [heq] at h1
        rcases Nat.lt_or_ge i listed.size with h' | h'
        · simp [h'] at h0 h1; rw [h0] at h1; cases h1
        · simp [Array.getElem?_eq_none h'] at h1
      have h2 := op_put (hd _ _ hoj) hoj (hfree j oj hoj hji hjun hnot) (fun cs b => hsel i oi cs b hi) (fun cs b => hsel j oj cs b hoj) hQ hy h1
      have hfree' : ∀ k ok, ops[k]? = some ok → k ≠ i → (listed.setIfInBounds j true).getD k true = false →
          (∀ e ∈ ok.after, Region.binds md e = true → e.on ≠ i) → oi.apart ops ok = true := fun k ok hk hki hun hno => by
        refine hfree k ok hk hki ?_ hno
        by_cases hjk : j = k
        · subst hjk; exact hjun
        · rw [getD_set_ne true hjk] at hun; exact hun
      refine wpOpIn_mono (fun a' w' h3 => ih (listed.setIfInBounds j true) a' w' hfree' (ready_mono hr (Ne.symm hji)) h3.1 ?_) h2
      rw [Array.setIfInBounds_comm _ _ hji]
      exact h3.2
theorem any_take {i : Nat} {oi : Oper} {v : Value} {fuel : Nat} {l : List Oper} {listed : Array Bool} {a : Act} {w : World} (hd : noDefer l = true) (hi : l.toArray[i]? = some oi)
    (hs : Region.noSelect l.toArray = true) (hf : Region.free md l.toArray listed i = true) (hr : (Region.ready md l.toArray listed).contains i = true)
    (hQ : ∀ c a w, Q (.panic c) (a.put oi.dst v) w → Q (.panic c) a w) (hy : YieldsFenced P l.toArray oi v a)
    (h : wpAnyIn F n P md l.toArray Q fuel (listed.setIfInBounds i true) (a.put oi.dst v) w) : wpAnyIn F n P md l.toArray Q (fuel + 1) listed a w :=
  any_first (noDefer_spec hd) hi (Region.noSelect_spec hs) hQ fuel listed a w (Region.free_spec hi hf) (by simpa using hr) hy h

/-- An append, as one operation. -/
theorem op_append_sep (w : World) {o : Oper} {a : Act} {K : Act → World → Prop} (s x : Operand) (t : TypeId)
    (ho : o.op = .call { callee := .builtin .append, args := #[s, x], argTypes := #[t, t] })
    (base : Nat) (e : TypeId) (i : TypeInfo) (z : Value) (size bytes : Nat) (ht : P.underlying t = some (.slice e)) (hi : P.info? e = some i) (hz : i.zero = some z)
    (hsize : i.size = size) (hby : i.bytes = bytes) (hzs : z.cells.size = size) (hsz : 0 < size)
    (v : Value) (n' : Nat) (xs : List Value) (hs : a.eval s = v) (hown : w.ownsRow base e size v n' xs)
    (ad : Addr) (m c : Nat) (news : List Value) (hx : a.eval x = .slice (some ad) m c) (hl : news.length = m * size) (hnews : ∀ j u, news[j]? = some u → w.cell? (ad.add j) = some u) (h1 : ∀ u ∈ news, u.oneCell' = true)
    (h63 : n' + m ≤ maxLen) (hbytes : (n' + m) * bytes ≤ 140737488355328) (hbase : base ≤ w.heap.size) (hm : 0 < m)
    (h : ∀ v' w', w'.ownsRow base e size v' (n' + m) (xs ++ news) → w.grownBy w' v.ownBlock → (v'.ownBlock = v.ownBlock ∨ v'.ownBlock = some w.heap.size) → K (a.put o.dst v') w') : o.wpIn F n P a w K Q := by
  obtain ⟨v', w', hr, h2, h3, h4⟩ := run_append_sep (P := P) w base t o.type e i z size bytes ht hi hz hsize hby hzs hsz v n' xs hown ad m c news hl hnews h1 h63 hbytes hbase hm
  unfold Oper.wpIn
  refine ⟨?_, ?_⟩
  · simp [Oper.about, ho, resolve, Target.leads, Sem.run_pure]
  · rw [Oper.semAt_plain F _ _ (by rw [ho]; intro c hc'; cases hc')]
    simp [execOp, ho, resolve, invoke, builtin, hs, hx, hr, Result.andThen]
    exact h v' w' h2 h3 h4
end
end Go.Proofs.YtaompdnnkfmjhaaGreatDoor
