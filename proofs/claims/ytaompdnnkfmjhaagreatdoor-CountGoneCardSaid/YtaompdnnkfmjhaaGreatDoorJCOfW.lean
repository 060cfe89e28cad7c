/- count.Of. count's map out of counts. -/
import Derived.Test.YtaompdnnkfmjhaaGreatDoorJCMore
import Derived.Test.YtaompdnnkfmjhaaGreatDoorFetchR
namespace Go.Proofs.YtaompdnnkfmjhaaGreatDoor
open Go.RowKit

theorem below_of_grown {W w w' : World} {mb : Nat} (h : Below W.heap.size W w) (hg : w.grownBy w' (some mb)) (hm : W.heap.size ≤ mb) : Below W.heap.size W w' :=
  ⟨hg.os.trans h.os, hg.tape.trans h.tape, hg.output.trans h.output, Nat.le_trans h.size hg.size, fun k hk => (hg.block k (Nat.lt_of_lt_of_le hk h.size) (fun e => by have := Option.some.inj e; omega)).trans (h.block k hk)⟩
/-- What the closure of kids does, whatever lies beside. -/
theorem kids_calls {W : World} {la : Option Addr} {lc : Nat} {o : List Snp} (ho : SnpRow W (.slice la o.length lc) o) (hT : ErrT W) (hup : upS (namesR o)) (hol : o.length ≤ 1100000) (hraw : ∀ x ∈ o, x.2.length ≤ 1000000) {w w' : World} {mb : Nat} (hw : Below W.heap.size W w) (hm : W.heap.size ≤ mb) (hmw : mb < w.heap.size) (k : List UInt8)
    (hg : (w.alloc (.cells #[.slice la o.length lc] 22)).grownBy w' (some mb)) :
    Calls Tryz.prog 54 (#[S k] ++ #[.pointer (some ⟨w.heap.size, 0, none⟩)]) w' fun e w'' => ∃ v, e = .returned v ∧ StrRow w'' v (kidsO o k) ∧ Below w'.heap.size w' w'' := by
  have hb := below_of_grown (hw.alloc hw.size (.cells #[.slice la o.length lc] 22)) hg hm
  refine ckids1_walk la lc o w.heap.size k w' ?_ (ho.below hb) (hT.below hb) hup hol hraw
  exact (hg.block _ (by simp) (fun e => by have := Option.some.inj e; omega)).trans (heap_alloc_new _ _)

def OfPost (o : List Snp) (roots : List (List UInt8)) (w : World) (e : Ending) (w' : World) : Prop :=
  ∃ (v' : Value) (Q : List (List UInt8)), upS Q ∧ (∀ x, x ∈ Q ↔ Reached o (seedP roots) x) ∧ Below w.heap.size w w' ∧ ((Q.all (okO o) = true ∧ ∃ c, e = .returned (.tuple #[v', .bool true]) ∧ CntRow w' v' c ∧ Counts (kidsO o) (roots.filter len32) c ∧ ∀ k, cntC c k ≠ 0 → Reached o (seedP roots) k) ∨ (Q.all (okO o) = false ∧ e = .returned (.tuple #[.slice none 0 0, .bool false])))

set_option maxHeartbeats 8000000 in
set_option maxRecDepth 100000 in
theorem countof_walk (ov v : Value) (o : List Snp) (roots : List (List UInt8)) (B : Nat) (w : World) (ho : SnpRow w ov o) (hr : StrRow w v roots) (hT : ErrT w) (hup : upS (namesR o)) (hol : o.length ≤ 1100000) (hraw : ∀ x ∈ o, x.2.length ≤ 1000000) (hcnt : 32 * roots.length + rawsL o ≤ 32 * 1000000) (hB : rawsL o ≤ 32 * B) (hrb : roots.length * (1 + B) ≤ 1000000) :
    Calls Tryz.prog 10 #[ov, v] w (OfPost o roots w) := by
  have C1 := preach_walk ov v o roots w ho hr hT hup hol hraw hcnt
  have HO := Lib.hid ho
  have HT := Lib.hid hT
  have HUP := Lib.hid hup
  have HRAW := Lib.hid hraw
  have HR := Lib.hid hr
  have HBB := Lib.hid hB
  have HRB := Lib.hid hrb
  obtain ⟨la, lc, rfl, -, -, -⟩ := ho
  obtain ⟨ra, rc, rfl, -, -, hx⟩ := hr
  have HX := Lib.hid hx
  have HFIN := Lib.hid (fun (e : Ending) (w' : World) (h : OfPost o roots w e w') => h)
  have hrl : roots.length ≤ 1000000 := by omega
  clear hT hraw hx hup hB hrb hcnt
  go_enter Tryz.func10, Tryz.ntmps10
  go_wp2_with fail
  refine C1.mono ?_
  rintro e w2 ⟨qv, Q, rfl, hq, huq, hmq, hb2⟩
  have HB2 := Lib.hid hb2
  have HQ := Lib.hid (And.intro huq hmq)
  obtain ⟨qa, qc, rfl, -, -, -⟩ := hq
  obtain ⟨qok, hqok⟩ : ∃ b, Q.all (okO o) = b := ⟨_, rfl⟩
  have HQK := Lib.hid hqok
  rw [hqok]
  clear C1 huq hmq hb2 hqok
  cases qok with
  | false =>
    go_wp2
    go_ret2
    exact HFIN.out _ _ ⟨.slice none 0 0, Q, HQ.out.1, HQ.out.2, HB2.out, .inr ⟨HQK.out, rfl⟩⟩
  | true =>
  obtain ⟨w3, hw3, HB3, HM3, hs3⟩ : ∃ w3, w3 = w2.alloc (.map #[] 0) ∧ Hid (Below w.heap.size w w3) ∧ Hid (CMap w3 w2.heap.size (0 * (1 + B)) []) ∧ w3.heap.size = w2.heap.size + 1 :=
    ⟨_, rfl, Lib.hid (HB2.out.alloc HB2.out.size _), Lib.hid (by
      rw [Nat.zero_mul]
      exact ⟨_, IMap.made w2, fun k => rfl, ⟨List.Pairwise.nil, by simp⟩, fun k => by simp [cntC]⟩), by simp⟩
  have hmk : (Instr.makeMap 67 none).run Tryz.prog w2 = .ok (.map (some w2.heap.size)) w3 := by rw [hw3]; rfl
  have HSZ := Lib.hid (show w.heap.size ≤ w2.heap.size ∧ w2.heap.size < w3.heap.size from ⟨HB2.out.size, by omega⟩)
  clear hw3 hs3
  go_wp2
  go_loopw [22] (fun iv wr => ∃ (q : Nat) (c : List Cnt), q ≤ roots.length ∧ iv = .int .i64 q ∧ Hid (CMap wr w2.heap.size (q * (1 + B)) c) ∧ Hid (Counts (kidsO o) ((roots.take q).filter len32) c ∧ ∀ k, cntC c k ≠ 0 → Reached o (seedP roots) k) ∧ Hid (Below w.heap.size w wr ∧ w3.heap.size ≤ wr.heap.size)) (fun iv _ => roots.length - (intOf iv).toNat)
  case atStart => exact ⟨0, [], Nat.zero_le _, rfl, HM3, Lib.hid ⟨Counts.nil _, fun k h => absurd rfl h⟩, Lib.hid ⟨HB3.out, Nat.le_refl _⟩⟩
  case round =>
    obtain ⟨q, c, hq, rfl, HM, HC, HB⟩ := hrel
    by_cases h1 : q < roots.length
    · have h1' : (q : Int) < (roots.length : Int) := by omega
      have hx := HX.out
      rcases hx with hx | ⟨g, go, rfl, hx⟩
      · exfalso; rw [hx] at h1; simp at h1
      have m1 := cell_below HB.out.1 (hx q roots[q] (by simp [h1]))
      have HTK := Lib.hid (List.take_succ_eq_append_getElem h1)
      have HMUL := Lib.hid (show (q + 1) * (1 + B) ≤ 1000000 from Nat.le_trans (Nat.mul_le_mul_right _ h1) HRB.out)
      have HM1 := Lib.hid (show (q + 1) * (1 + B) = q * (1 + B) + (1 + B) by rw [Nat.add_mul]; omega)
      clear hx
      have HSEED := Lib.hid (fun (h : roots[q].length = 32) => (Reached.seed (o := o) (P := seedP roots) (show seedP roots roots[q] from ⟨List.getElem_mem h1, h⟩)))
      generalize roots[q] = r at *
      by_cases h32 : r.length = 32
      · have h32' : (r.length : Int) = 32 := by omega
        have h32b : ((r.length : Int) == 32) = true := by rw [beq_iff_eq]; exact h32'
        have CK := ckids_walk la lc o.length wr
        have HG := Lib.hid (grown_of_below ((Below.refl wr.heap.size wr).alloc (Nat.le_refl _) (.cells #[.slice la o.length lc] 22)) (some w2.heap.size))
        have CM := cmore_walk w2.heap.size (q * (1 + B)) (1 + B) 54 #[.pointer (some ⟨wr.heap.size, 0, none⟩)] (kidsO o) (namesR o) (up_nodup HUP.out) (fun k hk => kidsO_none hk) r c (wr.alloc (.cells #[.slice la o.length lc] 22)) (fun args w => by first | rfl | kernel_rfl)
          (HM.out.kept ((Below.refl wr.heap.size wr).alloc (Nat.le_refl _) _)) (size_le HUP.out true r c HBB.out) (by have := HMUL.out; have := HM1.out; omega) (by unfold maxLen; omega) (fun k y hy => by rw [kidsO_32 hy]; unfold maxLen; omega)
          (fun k w' hg => kids_calls HO.out HT.out HUP.out hol HRAW.out HB.out.1 HSZ.out.1 (by have := HSZ.out.2; have := HB.out.2; omega) k hg)
        have HL := Lib.hid (show (roots.take (q + 1)).filter len32 = (roots.take q).filter len32 ++ [r] by rw [HTK.out, List.filter_append, List.filter_cons_of_pos (by simp [len32, h32])]; rfl)
        have HRS := Lib.hid (HSEED.out h32)
        clear h32
        go_wp2_with fail
        refine CK.mono ?_
        rintro e w4 ⟨rfl, rfl⟩
        clear CK
        go_wp2_with fail
        refine CM.mono ?_
        rintro e w5 ⟨rfl, n, c', hit, hcm, hg⟩
        have HM5 := Lib.hid (show CMap w5 w2.heap.size ((q + 1) * (1 + B)) c' by rw [HM1.out]; exact hcm)
        have HC5 := Lib.hid (show Counts (kidsO o) ((roots.take (q + 1)).filter len32) c' ∧ ∀ k, cntC c' k ≠ 0 → Reached o (seedP roots) k from by
          refine ⟨by rw [HL.out]; exact HC.out.1.plus hit, ?_⟩
          have h9 := iter_sup (kids := kidsO o) (P := Reached o (seedP roots)) (fun p y hp hy => hp.next hy) n (s := ([r], c)) HC.out.1.fit ⟨fun k hk => by rw [List.mem_singleton.1 hk]; exact HRS.out, HC.out.2⟩
          rw [hit] at h9
          exact h9.2)
        have HB5 := Lib.hid (show Below w.heap.size w w5 ∧ w3.heap.size ≤ w5.heap.size from ⟨below_of_grown HB.out.1 (World.grownBy.trans HG.out hg) HSZ.out.1, Nat.le_trans HB.out.2 (World.grownBy.trans HG.out hg).size⟩)
        clear CM hit hcm hg m1
        go_wp2
        go_roundw
        case rel => exact ⟨q + 1, c', by omega, by go_num, HM5, HC5, HB5⟩
        case measure => simp [intOf]; omega
      · have h32' : ¬ (r.length : Int) = 32 := by omega
        have h32b : ((r.length : Int) == 32) = false := by rw [beq_eq_false_iff_ne]; exact h32'
        have HL := Lib.hid (show (roots.take (q + 1)).filter len32 = (roots.take q).filter len32 by rw [HTK.out, List.filter_append, List.filter_cons_of_neg (by simp [len32, h32])]; simp)
        have HM5 := Lib.hid (HM.out.mono (show q * (1 + B) ≤ (q + 1) * (1 + B) by have := HM1.out; omega))
        go_wp2
        go_roundw
        case rel => exact ⟨q + 1, c, by omega, by go_num, HM5, Lib.hid (by rw [HL.out]; exact HC.out), HB⟩
        case measure => simp [intOf]; omega
    · have h1' : ¬ (q : Int) < (roots.length : Int) := by omega
      obtain rfl : q = roots.length := by omega
      rw [List.take_of_length_le (Nat.le_refl _)] at HC
      have CLI := clist_walk w2.heap.size (roots.length * (1 + B)) c wr HM.out HRB.out
      go_wp2_with fail
      refine CLI.mono ?_
      rintro e w4 ⟨v4, rfl, hr4, hb4⟩
      have HR4 := Lib.hid hr4
      have HB4 := Lib.hid (below_chain HB.out.1 hb4 HB.out.1.size)
      obtain ⟨a4, c4, rfl⟩ := row_slice hr4
      clear CLI hr4 hb4
      go_wp2
      go_ret2
      exact HFIN.out _ _ ⟨_, Q, HQ.out.1, HQ.out.2, HB4.out, .inl ⟨HQK.out, c, rfl, HR4.out, HC.out.1, HC.out.2⟩⟩
end Go.Proofs.YtaompdnnkfmjhaaGreatDoor

namespace Go.Proofs.YtaompdnnkfmjhaaGreatDoor
open Go.RowKit

/-- Counts as a map. -/
def mapF (c : List Cnt) (k : List UInt8) : Option Int := (c.find? (fun y => y.1 == k)).map (·.2)
theorem mapF_cnt (c : List Cnt) (k : List UInt8) : (mapF c k).getD 0 = cntC c k := by
  unfold mapF cntC
  cases c.find? (fun y => y.1 == k) <;> rfl
theorem mapF_none {c : List Cnt} {k : List UInt8} (h : k ∉ c.map (·.1)) : mapF c k = none := by
  unfold mapF
  rw [Option.map_eq_none_iff, List.find?_eq_none]
  intro y hy e
  exact h (List.mem_map.2 ⟨y, hy, by simpa using e⟩)
theorem mapF_snoc {c : List Cnt} {x : Cnt} (h : x.1 ∉ c.map (·.1)) : mapF (c ++ [x]) = fun k' => if k' = x.1 then some x.2 else mapF c k' := by
  funext k
  by_cases e : k = x.1
  · subst e
    simp only [if_true]
    unfold mapF
    rw [List.find?_append, List.find?_eq_none.2 (fun y hy e => h (List.mem_map.2 ⟨y, hy, by simpa using e⟩))]
    simp
  · simp only [if_neg e]
    unfold mapF
    rw [List.find?_append]
    cases c.find? (fun y => y.1 == k) with
    | some y => rfl
    | none => simp [Ne.symm e]

set_option maxHeartbeats 4000000 in
set_option maxRecDepth 100000 in
theorem cof_walk (v : Value) (c : List Cnt) (w : World) (hr : CntRow w v c) (hfit : FitCn c) (hval : ∀ x ∈ c, x.2 ≤ 1099511627776) (hkl : ∀ x ∈ c, x.1.length ≤ maxLen) (hcnt : c.length ≤ 1000000) :
    Calls Tryz.prog 40 #[v] w fun e w' => ∃ mb, e = .returned (.map (some mb)) ∧ w.heap.size ≤ mb ∧ CMap w' mb c.length c ∧ Below w.heap.size w w' := by
  obtain ⟨a, cc, rfl, -, -, hx⟩ := hr
  have HX := Lib.hid hx
  obtain ⟨w1, hw1, HB1, HM1⟩ : ∃ w1, w1 = w.alloc (.map #[] 0) ∧ Hid (Below w.heap.size w w1) ∧ Hid (IMap w1 w.heap.size 0 (mapF (c.take 0))) :=
    ⟨_, rfl, Lib.hid ((Below.refl _ _).alloc (Nat.le_refl _) _), Lib.hid (IMap.made w)⟩
  have HFIT := Lib.hid hfit
  have HVAL := Lib.hid hval
  have HKL := Lib.hid hkl
  clear hx hfit hval hkl
  have hmk : (Instr.makeMap 67 none).run Tryz.prog w = .ok (.map (some w.heap.size)) w1 := by rw [hw1]; rfl
  clear hw1
  go_enter Tryz.func40, Tryz.ntmps40
  go_wp2
  go_loopw [11] (fun iv wr => ∃ q : Nat, q ≤ c.length ∧ iv = .int .i64 q ∧ Hid (IMap wr w.heap.size q (mapF (c.take q))) ∧ Hid (Below w.heap.size w wr)) (fun iv _ => c.length - (intOf iv).toNat)
  case atStart => exact ⟨0, Nat.zero_le _, rfl, HM1, HB1⟩
  case round =>
    obtain ⟨q, hq, rfl, HM, HB⟩ := hrel
    by_cases h1 : q < c.length
    · have h1' : (q : Int) < (c.length : Int) := by omega
      have hx := HX.out
      rcases hx with hx | ⟨g, go, rfl, hx⟩
      · exfalso; rw [hx] at h1; simp at h1
      obtain ⟨hx1, hx2⟩ := cnt_cells hx h1
      have m1 := cell_below HB.out hx1
      have m2 := cell_below HB.out hx2
      have hk := HKL.out c[q] (List.getElem_mem h1)
      have hv := HVAL.out c[q] (List.getElem_mem h1)
      have hp := HFIT.out.pos c[q] (List.getElem_mem h1)
      have hnot : c[q].1 ∉ (c.take q).map (·.1) := by
        intro hm
        have hu := up_nodup HFIT.out.up
        have h2 : (c.take (q + 1)).map (·.1) = (c.take q).map (·.1) ++ [c[q].1] := by rw [List.take_succ_eq_append_getElem h1, List.map_append]; rfl
        have h3 : ((c.take (q + 1)).map (·.1)).Nodup := List.Nodup.sublist ((List.take_sublist _ _).map _) hu
        rw [h2, List.nodup_append] at h3
        exact h3.2.2 _ hm _ (List.mem_singleton.2 rfl) rfl
      have HST := Lib.hid (show mapF (c.take (q + 1)) = fun k' => if k' = c[q].1 then some c[q].2 else mapF (c.take q) k' by rw [List.take_succ_eq_append_getElem h1]; exact mapF_snoc hnot)
      have hno := mapF_none hnot
      clear hx hx1 hx2 hnot
      generalize c[q] = y at *
      obtain ⟨p, n⟩ := y
      simp only at hk hv hp hno
      obtain ⟨wb, hwb, hbb, hz⟩ : ∃ wb, wb = wr.alloc (.cells #[S p, .int .i64 n] 41) ∧ Below wr.heap.size wr wb ∧ wb.heap[wr.heap.size]? = some (.cells #[S p, .int .i64 n] 41 (0, 0)) :=
        ⟨_, rfl, (Below.refl _ _).alloc (Nat.le_refl _) _, heap_alloc_new _ _⟩
      have him := HM.out.kept hbb
      have hlk := him.lookOk hk
      rw [hno] at hlk
      simp only [Option.getD_none, Option.isSome_none] at hlk
      obtain ⟨w3, hup, him3, hg3⟩ := him.update hk (by unfold maxLen; omega) (c := n) (by simp [Lit.wf, IntKind.min, IntKind.max, IntKind.bits, IntKind.signed]; omega)
      have HM3 := Lib.hid (show IMap w3 w.heap.size (q + 1) (mapF (c.take (q + 1))) by rw [HST.out]; exact him3)
      have HB3 := Lib.hid (show Below w.heap.size w w3 from (below_chain HB.out hbb HB.out.size).grown hg3 (by have := HB.out.size; have := hbb.size; omega) (fun j hj => by cases hj; exact Nat.le_refl _))
      obtain ⟨⟨b0, b1⟩, -, -⟩ := box2 hz
      clear hbb hz him him3 hg3 hno
      go_upto_region 5 with fail
      rw [← hwb]
      clear hwb m1 m2
      go_wp2
      go_roundw
      case rel => exact ⟨q + 1, by omega, by go_num, HM3, HB3⟩
      case measure => simp [intOf]; omega
    · have h1' : ¬ (q : Int) < (c.length : Int) := by omega
      obtain rfl : q = c.length := by omega
      have HC := Lib.hid (show CMap wr w.heap.size c.length c from by
        have h := HM.out
        rw [List.take_of_length_le (Nat.le_refl _)] at h
        refine ⟨_, h, mapF_cnt c, HFIT.out, fun k => ?_⟩
        unfold cntC
        cases hf : c.find? (fun y => y.1 == k) with
        | none => simp only; omega
        | some y =>
          have := HVAL.out y (List.mem_of_find?_eq_some hf)
          simp only; omega)
      go_wp2
      go_ret
      exact ⟨_, rfl, Nat.le_refl _, HC.out, HB.out⟩
end Go.Proofs.YtaompdnnkfmjhaaGreatDoor
