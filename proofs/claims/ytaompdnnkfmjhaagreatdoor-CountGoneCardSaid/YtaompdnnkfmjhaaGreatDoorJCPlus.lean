/- Texts, one behind the other. The reference's numbers written as bytes. count.Plus, count.Minus. slices.IndexFunc at silo/api.Count; count.N. count.N: how often a key is asked for. -/
import Derived.Test.YtaompdnnkfmjhaaGreatDoorJAny
import Derived.Test.YtaompdnnkfmjhaaGreatDoorJRowG
import Derived.Test.YtaompdnnkfmjhaaGreatDoorJMapI
import Derived.Test.YtaompdnnkfmjhaaGreatDoorJCOfW
import Derived.Test.YtaompdnnkfmjhaaGreatDoorJPFit11
import Derived.Test.YtaompdnnkfmjhaaGreatDoorJCSpread
import Derived.Test.YtaompdnnkfmjhaaGreatDoorJCList
namespace Go.Proofs.YtaompdnnkfmjhaaGreatDoor
open Go.RowKit

theorem S_app (a b : List UInt8) : Value.string (({ data := a.toArray } : ByteArray) ++ ({ data := b.toArray } : ByteArray)) = S (a ++ b) := by
  congr 1
end Go.Proofs.YtaompdnnkfmjhaaGreatDoor

namespace Go.Proofs.YtaompdnnkfmjhaaGreatDoor
open Go.RowKit

set_option maxHeartbeats 1100000 in
set_option maxRecDepth 100000 in
theorem r01put_walk (n0 : Nat) (w : World) (hn0 : n0 < 2 ^ 64) :
    Calls Tryz.prog 64 #[.int .u64 n0] w fun e w' => e = .returned (S (putV n0)) ∧ Below w.heap.size w w' := by
  obtain ⟨i0, hi, hz0, hz1, hz2⟩ := info_parts infoByte
  go_enter Tryz.func64, Tryz.ntmps64
  go_wp2
  go_loopw [0, 3] (fun n v wr => ∃ (k : Nat) (out : List UInt8), n = .int .u64 k ∧ out.length ≤ 9 ∧ k < 2 ^ (64 - 7 * out.length) ∧ putV n0 = out ++ putV k ∧ wr.ownsRow w.heap.size 5 1 v out.length (Lib.byteCells out) ∧ Below w.heap.size w wr) (fun n _ _ => (intOf n).toNat)
  case atStart => exact ⟨n0, [], rfl, by simp, by simpa using hn0, rfl, World.ownsRow_nil _ _ _ _, Below.refl _ _⟩
  case round =>
    obtain ⟨k, out, rfl, hol, hk, hp, hown, hB⟩ := hrel
    have HP := Lib.hid hp
    have hsz := hB.size
    have hk64 := putV_word hol hk
    by_cases h1 : k < 128
    · have h1' : ¬ (128 : Int) ≤ (k : Int) := by omega
      have HL := Lib.hid (putV_last hp h1)
      clear hp
      go_wp2_with (at_builtin; refine wpList_append_own _ rfl _ _ 113 rfl w.heap.size 5 i0 (.int .u8 0) 1 1 Tryz.underlying113 hi hz0 hz1 hz2 rfl (by decide) _ _ _ rfl (hown.alloc _) ⟨wr.heap.size, 0, none⟩ 1 1 [.int .u8 (k : Int)] rfl rfl (new_cell _ _ _) (by intro u hu; simp at hu; subst hu; rfl) (by unfold maxLen; omega) (by omega) (by simp; omega) ?_)
      intro v' w1 hown' hgrow _
      have hB1 : Below w.heap.size w w1 := (hB.alloc hsz _).grown hgrow (by simp; omega) (fun j hj => (hown.lt j hj).1)
      clear hgrow hown hB
      have hbk := bytes_back (l := out ++ [UInt8.ofNat k]) (by
        have e : Lib.byteCells (out ++ [UInt8.ofNat k]) = Lib.byteCells out ++ [.int .u8 (k : Int)] := by
          simp [Lib.byteCells]; omega
        rw [e]
        simpa using hown')
      clear hown'
      go_wp2
      go_ret
      exact ⟨by rw [HL.out]; rfl, hB1⟩
    · have h1' : (128 : Int) ≤ (k : Int) := by omega
      have HL := Lib.hid (putV_step hp h1)
      obtain ⟨hr1, hr2⟩ := putV_room hol hk (by omega)
      clear hp
      go_wp2_with (at_builtin; refine wpList_append_own _ rfl _ _ 113 rfl w.heap.size 5 i0 (.int .u8 0) 1 1 Tryz.underlying113 hi hz0 hz1 hz2 rfl (by decide) _ _ _ rfl (hown.alloc _) ⟨wr.heap.size, 0, none⟩ 1 1 [.int .u8 ((k : Int) % 128 + 128)] rfl rfl (new_cell _ _ _) (by intro u hu; simp at hu; subst hu; rfl) (by unfold maxLen; omega) (by omega) (by simp; omega) ?_)
      intro v' w1 hown' hgrow _
      have hB1 : Below w.heap.size w w1 := (hB.alloc hsz _).grown hgrow (by simp; omega) (fun j hj => (hown.lt j hj).1)
      clear hgrow hown hB
      have hown2 : w1.ownsRow w.heap.size 5 1 v' (out ++ [UInt8.ofNat (k % 128 + 128)]).length (Lib.byteCells (out ++ [UInt8.ofNat (k % 128 + 128)])) := by
        have e : Lib.byteCells (out ++ [UInt8.ofNat (k % 128 + 128)]) = Lib.byteCells out ++ [.int .u8 ((k : Int) % 128 + 128)] := by
          simp [Lib.byteCells]; omega
        rw [e]
        simpa using hown'
      clear hown'
      go_wp2
      go_roundw
      case rel => exact ⟨k / 128, _, by go_num, by simp; omega, by simpa using hr2, HL.out, hown2, hB1⟩
      case measure => simp [intOf]; omega

set_option maxHeartbeats 1100000 in
set_option maxRecDepth 100000 in
theorem r01puttext_walk (l : List UInt8) (w : World) (hl : l.length ≤ 1100000) :
    Calls Tryz.prog 65 #[S l] w fun e w' => e = .returned (S (putText l)) ∧ Below w.heap.size w w' := by
  have HT := Lib.hid (show putText l = if 65536 < l.length then [] else putV l.length ++ l from rfl)
  generalize putText l = tt at *
  by_cases h : 65536 < l.length
  · have h' : (65536 : Int) < (l.length : Int) := by omega
    have HT1 := Lib.hid (HT.out.trans (if_pos h))
    go_enter Tryz.func65, Tryz.ntmps65
    go_wp2
    go_ret
    exact ⟨by rw [HT1.out]; rfl, Below.refl _ _⟩
  · have h' : ¬ (65536 : Int) < (l.length : Int) := by omega
    have HT1 := Lib.hid (HT.out.trans (if_neg h))
    go_enter Tryz.func65, Tryz.ntmps65
    go_wp2_with fail
    refine (r01put_walk l.length w (by omega)).mono ?_
    rintro e w1 ⟨rfl, hb⟩
    have hpl := putV_len (n := l.length) (by omega)
    have hns : ¬ 9223372036854775807 < (putV l.length).length + l.length := by omega
    go_wp2
    go_ret
    exact ⟨by rw [HT1.out, ← S_app]; rfl, hb⟩
end Go.Proofs.YtaompdnnkfmjhaaGreatDoor

namespace Go.Proofs.YtaompdnnkfmjhaaGreatDoor
open Go.RowKit

/-- Counts that can be handed on. -/
structure OkC (c : List Cnt) : Prop where
  fit : FitCn c
  val : ∀ x ∈ c, x.2 ≤ 1099511627776
  keys : ∀ x ∈ c, x.1.length ≤ maxLen
  len : c.length ≤ 900000
def PlusPost (c : List Cnt) (o : List Snp) (root : List UInt8) (w : World) (e : Ending) (w' : World) : Prop :=
  ∃ (v' : Value) (c' : List Cnt) (code : Int) (Q : List (List UInt8)), e = .returned (.tuple #[v', .int .i64 code]) ∧ CntRow w' v' c' ∧ upS Q ∧ (∀ x, x ∈ Q ↔ Reached o (seedP [root]) x) ∧ Below w.heap.size w w' ∧
    (((Q.all (okO o) = true ∧ Q ≠ []) ∧ code = 0 ∧ ∃ n, iterQ (plusS (kidsO o)) n ([root], c) = ([], c')) ∨ (¬ (Q.all (okO o) = true ∧ Q ≠ []) ∧ code = 5 ∧ c' = c))

set_option maxHeartbeats 8000000 in
set_option maxRecDepth 100000 in
theorem cplus_walk (cv ov : Value) (c : List Cnt) (o : List Snp) (root : List UInt8) (B : Nat) (w : World) (hc : CntRow w cv c) (hok : OkC c) (ho : SnpRow w ov o) (hT : ErrT w) (hup : upS (namesR o)) (hol : o.length ≤ 1100000) (hraw : ∀ x ∈ o, x.2.length ≤ 1000000) (hB : rawsL o ≤ 32 * B) (hB2 : B ≤ 90000) (hrl : root.length ≤ maxLen) :
    Calls Tryz.prog 16 #[cv, ov, S root] w (PlusPost c o root w) := by
  have HB1 := Lib.hid (show Below w.heap.size w (w.alloc (.cells #[S root] 9)) from (Below.refl _ _).alloc (Nat.le_refl _) _)
  have hrow : StrRow (w.alloc (.cells #[S root] 9)) (.slice (some ⟨w.heap.size, 0, none⟩) 1 1) [root] := row_lit w 9 [root] (by simp)
  have C1 := preach_walk ov (.slice (some ⟨w.heap.size, 0, none⟩) 1 1) o [root] _ (ho.below HB1.out) hrow (hT.below HB1.out) hup hol hraw (by simp; omega)
  have HO := Lib.hid ho
  have HT := Lib.hid hT
  have HUP := Lib.hid hup
  have HRAW := Lib.hid hraw
  have HC := Lib.hid hc
  have HOK := Lib.hid hok
  have HBB := Lib.hid hB
  have HRL := Lib.hid hrl
  have HFIN := Lib.hid (fun (e : Ending) (w' : World) (h : PlusPost c o root w e w') => h)
  obtain ⟨la, lc, rfl, -, -, -⟩ := ho
  obtain ⟨ca, cc, rfl⟩ := row_slice hc
  clear hT hraw hup hB hrow hok hrl hc
  go_enter Tryz.func16, Tryz.ntmps16
  go_wp2_with fail
  refine C1.mono ?_
  rintro e w2 ⟨qv, Q, rfl, hq, huq, hmq, hb2⟩
  have HB2 := Lib.hid (show Below w.heap.size w w2 from below_chain HB1.out hb2 HB1.out.size)
  have HQ := Lib.hid (And.intro huq hmq)
  obtain ⟨qa, qc, rfl, -, -, -⟩ := hq
  obtain ⟨qok, hqok⟩ : ∃ b, Q.all (okO o) = b := ⟨_, rfl⟩
  have HQK := Lib.hid hqok
  rw [hqok]
  have HC2 := Lib.hid (HC.out.below HB2.out)
  clear C1 huq hmq hb2 hqok
  cases qok with
  | false =>
    go_wp2
    go_ret2
    exact HFIN.out _ _ ⟨_, c, 5, Q, rfl, HC2.out, HQ.out.1, HQ.out.2, HB2.out, .inr ⟨fun h => (by rw [HQK.out] at h; cases h.1), rfl, rfl⟩⟩
  | true =>
  by_cases hq0 : Q.length = 0
  · have hq0' : (Q.length : Int) = 0 := by omega
    have hq0b : ((Q.length : Int) == 0) = true := by rw [beq_iff_eq]; exact hq0'
    have HQ0 := Lib.hid (List.length_eq_zero_iff.1 hq0)
    rw [hq0]
    go_wp2
    go_ret2
    exact HFIN.out _ _ ⟨_, c, 5, Q, rfl, HC2.out, HQ.out.1, HQ.out.2, HB2.out, .inr ⟨fun h => h.2 HQ0.out, rfl, rfl⟩⟩
  have hq0' : ¬ (Q.length : Int) = 0 := by omega
  have hq0b : ((Q.length : Int) == 0) = false := by rw [beq_eq_false_iff_ne]; exact hq0'
  have HQ0 := Lib.hid (show Q ≠ [] from fun h => hq0 (by rw [h]; rfl))
  have CF := cof_walk (.slice ca c.length cc) c w2 HC2.out HOK.out.fit HOK.out.val HOK.out.keys (by have := HOK.out.len; omega)
  clear hq0
  go_wp2_with fail
  refine CF.mono ?_
  rintro e w3 ⟨mb, rfl, hmb, hcm, hb3⟩
  have HCM := Lib.hid hcm
  have HB3 := Lib.hid (below_chain HB2.out hb3 HB2.out.size)
  have HMB := Lib.hid (show w.heap.size ≤ mb ∧ mb < w3.heap.size from ⟨Nat.le_trans HB2.out.size hmb, hcm.lt⟩)
  have CK := ckids_walk la lc o.length w3
  have HG := Lib.hid (grown_of_below ((Below.refl w3.heap.size w3).alloc (Nat.le_refl _) (.cells #[.slice la o.length lc] 22)) (some mb))
  have CM := cmore_walk mb c.length (1 + B) 54 #[.pointer (some ⟨w3.heap.size, 0, none⟩)] (kidsO o) (namesR o) (up_nodup HUP.out) (fun k hk => kidsO_none hk) root c (w3.alloc (.cells #[.slice la o.length lc] 22)) (fun args w => by first | rfl | kernel_rfl)
    (HCM.out.kept ((Below.refl w3.heap.size w3).alloc (Nat.le_refl _) _)) (size_le HUP.out true root c HBB.out) (by have := HOK.out.len; omega) HRL.out (fun k y hy => by rw [kidsO_32 hy]; unfold maxLen; omega)
    (fun k w' hg => kids_calls HO.out HT.out HUP.out hol HRAW.out HB3.out HMB.out.1 HMB.out.2 k hg)
  clear CF hmb hcm hb3
  go_wp2_with fail
  refine CK.mono ?_
  rintro e w4 ⟨rfl, rfl⟩
  clear CK
  go_wp2_with fail
  refine CM.mono ?_
  rintro e w5 ⟨rfl, n, c', hit, hcm, hg⟩
  have HIT := Lib.hid hit
  have HB5 := Lib.hid (below_of_grown HB3.out (World.grownBy.trans HG.out hg) HMB.out.1)
  have CLI := clist_walk mb (c.length + (1 + B)) c' w5 hcm (by have := HOK.out.len; omega)
  clear CM hit hcm hg
  go_wp2_with fail
  refine CLI.mono ?_
  rintro e w6 ⟨v6, rfl, hr6, hb6⟩
  have HR6 := Lib.hid hr6
  have HB6 := Lib.hid (below_chain HB5.out hb6 HB5.out.size)
  obtain ⟨a6, c6, rfl⟩ := row_slice hr6
  clear CLI hr6 hb6
  go_wp2
  go_ret2
  exact HFIN.out _ _ ⟨_, c', 0, Q, rfl, HR6.out, HQ.out.1, HQ.out.2, HB6.out, .inl ⟨⟨HQK.out, HQ0.out⟩, rfl, n, HIT.out⟩⟩

def MinusPost (c : List Cnt) (o : List Snp) (root : List UInt8) (w : World) (e : Ending) (w' : World) : Prop :=
  ∃ (v' : Value) (c' : List Cnt) (code : Int), e = .returned (.tuple #[v', .int .i64 code]) ∧ CntRow w' v' c' ∧ Below w.heap.size w w' ∧
    ((cntC c root ≠ 0 ∧ code = 0 ∧ ∃ n, iterQ (minusS (kidsO o)) n ([root], c) = ([], c')) ∨ (cntC c root = 0 ∧ code = 5 ∧ c' = c))

set_option maxHeartbeats 8000000 in
set_option maxRecDepth 100000 in
theorem cminus_walk (cv ov : Value) (c : List Cnt) (o : List Snp) (root : List UInt8) (B : Nat) (w : World) (hc : CntRow w cv c) (hok : OkC c) (ho : SnpRow w ov o) (hT : ErrT w) (hup : upS (namesR o)) (hol : o.length ≤ 1100000) (hraw : ∀ x ∈ o, x.2.length ≤ 1000000) (hB : rawsL o ≤ 32 * B) (hB2 : B ≤ 90000) (hrl : root.length ≤ maxLen) :
    Calls Tryz.prog 18 #[cv, ov, S root] w (MinusPost c o root w) := by
  have CF := cof_walk cv c w hc hok.fit hok.val hok.keys (by have := hok.len; omega)
  have HO := Lib.hid ho
  have HT := Lib.hid hT
  have HUP := Lib.hid hup
  have HRAW := Lib.hid hraw
  have HC := Lib.hid hc
  have HOK := Lib.hid hok
  have HBB := Lib.hid hB
  have HRL := Lib.hid hrl
  have HFIN := Lib.hid (fun (e : Ending) (w' : World) (h : MinusPost c o root w e w') => h)
  obtain ⟨la, lc, rfl, -, -, -⟩ := ho
  obtain ⟨ca, cc, rfl⟩ := row_slice hc
  clear hT hraw hup hB hok hrl hc
  go_enter Tryz.func18, Tryz.ntmps18
  go_wp2_with fail
  refine CF.mono ?_
  rintro e w3 ⟨mb, rfl, hmb, hcm, hb3⟩
  obtain ⟨w4, hw4, HB34, hz4⟩ : ∃ w4, w4 = w3.alloc (.cells #[.map (some mb)] 67) ∧ Hid (Below w3.heap.size w3 w4) ∧ w4.heap[w3.heap.size]? = some (.cells #[.map (some mb)] 67 (0, 0)) :=
    ⟨_, rfl, Lib.hid ((Below.refl _ _).alloc (Nat.le_refl _) _), heap_alloc_new _ _⟩
  have HCM := Lib.hid (hcm.kept HB34.out)
  have HB4 := Lib.hid (show Below w.heap.size w w4 from below_chain (below_chain (Below.refl _ _) hb3 (Nat.le_refl _)) HB34.out hb3.size)
  have HMB := Lib.hid (show w.heap.size ≤ mb ∧ mb < w3.heap.size ∧ w3.heap.size < w4.heap.size from ⟨hmb, hcm.lt, heap_lt hz4⟩)
  have HC4 := Lib.hid (HC.out.below HB4.out)
  have hlk : (Instr.lookup 67 (.map (some mb)) (S root) false).run Tryz.prog w4 = .ok (.int .i64 (cntC c root)) w4 := by
    obtain ⟨F, him, hF, -, -⟩ := HCM.out
    have h := him.look HRL.out
    rw [hF] at h
    exact h
  have c0 := heap_cell hz4 (j := 0) (v := .map (some mb)) rfl
  clear CF hmb hcm hb3
  go_upto_region 2 with fail
  rw [← hw4]
  clear hw4
  by_cases h0 : cntC c root = 0
  · rw [h0] at hlk
    have H0 := Lib.hid h0
    clear h0
    go_wp2
    go_ret2
    exact HFIN.out _ _ ⟨_, c, 5, rfl, HC4.out, HB4.out, .inr ⟨H0.out, rfl, rfl⟩⟩
  have h0b : (cntC c root == 0) = false := by rw [beq_eq_false_iff_ne]; exact h0
  have H0 := Lib.hid h0
  have HZ4 := Lib.hid hz4
  go_upto_region 4 with fail
  obtain ⟨w5, hw5, hz5, HCM5, HB5, hs5⟩ : ∃ w5 : World, w5 = { w4 with drawn := w4.drawn + 1 } ∧ w5.heap[w3.heap.size]? = some (.cells #[.map (some mb)] 67 (0, 0)) ∧ Hid (CMap w5 mb c.length c) ∧ Hid (Below w.heap.size w w5) ∧ w5.heap.size = w4.heap.size := by
    have hdr : Below w4.heap.size w4 { w4 with drawn := w4.drawn + 1 } := ⟨rfl, rfl, rfl, Nat.le_refl _, fun _ _ => rfl⟩
    exact ⟨_, rfl, HZ4.out, Lib.hid (HCM.out.kept hdr), Lib.hid (below_chain HB4.out hdr HB4.out.size), rfl⟩
  have HMB5 := Lib.hid (show w.heap.size ≤ mb ∧ mb < w3.heap.size ∧ w3.heap.size < w5.heap.size by have := HMB.out; omega)
  clear c0 hlk h0 h0b hz4 hs5
  (refine wp_region_held (S := fun w' => w'.heap[w3.heap.size]? = some (.cells #[.map (some mb)] 67 (0, 0))) (by kernel_rfl) ?_)
  rw [← hw5]
  clear hw5
  (refine wpAnyH_take (i := 0) (v := ?_) rfl (by kernel_rfl) (by kernel_rfl) (by kernel_rfl) (fun _ _ _ h => h) (Or.inl ⟨by rfl, ?_⟩) (by exact hz5) ?_; rotate_left; (intro w9 hS9; (have c0 := heap_cell hS9 (j := 0) (v := .map (some mb)) rfl); go_simp; try with_reducible rfl))
  (refine wpAnyH_take (i := 1) (v := ?_) rfl (by kernel_rfl) (by kernel_rfl) (by kernel_rfl) (fun _ _ _ h => h) (Or.inl ⟨by rfl, ?_⟩) (by exact hz5) ?_; rotate_left; (intro w9 hS9; skip; go_simp; try with_reducible rfl))
  (refine wpAnyH_take (i := 2) (v := ?_) rfl (by kernel_rfl) (by kernel_rfl) (by kernel_rfl) (fun _ _ _ h => h) (Or.inl ⟨by rfl, ?_⟩) (by exact hz5) ?_; rotate_left; (intro w9 hS9; skip; go_simp; try with_reducible rfl))
  (refine wpAnyH_take (i := 4) (v := ?_) rfl (by kernel_rfl) (by kernel_rfl) (by kernel_rfl) (fun _ _ _ h => h) (Or.inl ⟨by rfl, ?_⟩) (by exact hz5) ?_; rotate_left; (intro w9 hS9; skip; go_simp; try with_reducible rfl))
  refine wpAnyH_one (i := 3) (by kernel_rfl) rfl (fun K hK => ?_)
  go_simp
  refine (ckids_walk la lc o.length w5).mono ?_
  rintro e w6 ⟨rfl, rfl⟩
  have HG := Lib.hid (grown_of_below ((Below.refl w5.heap.size w5).alloc (Nat.le_refl _) (.cells #[.slice la o.length lc] 22)) (some mb))
  have HZ6 := Lib.hid ((Below.heap_alloc w5 (.cells #[.slice la o.length lc] 22) _ (heap_lt hz5)).trans hz5)
  have CS := spread_walk mb c.length (1 + B) 54 44 #[.pointer (some ⟨w5.heap.size, 0, none⟩)] #[.pointer (some ⟨w3.heap.size, 0, none⟩)] (kidsO o) (stepM (kidsO o)) flagM updM (sizeQ (kidsO o) (namesR o) false) (stepM_stepF (up_nodup HUP.out) (fun k hk => kidsO_none hk)) root c (w5.alloc (.cells #[.slice la o.length lc] 22)) (fun args w => by first | rfl | kernel_rfl) (fun args w => by first | rfl | kernel_rfl)
    (HCM5.out.kept ((Below.refl w5.heap.size w5).alloc (Nat.le_refl _) _)) (size_le HUP.out false root c HBB.out) (by omega) HRL.out (fun k y hy => by rw [kidsO_32 hy]; unfold maxLen; omega)
    (fun k w' hg => kids_calls HO.out HT.out HUP.out hol HRAW.out HB5.out HMB5.out.1 (by have := HMB5.out; omega) k hg)
    (fun k c' n w' hg hcm hn hkl => cminus1_walk mb (c.length + n) w3.heap.size c' k w' ((hg.block _ (heap_lt HZ6.out) (fun e => by have := Option.some.inj e; have := HMB5.out; omega)).trans HZ6.out) hcm (by have := HOK.out.len; omega) hkl)
  refine hK _ _ HZ6.out ?_
  clear hK K
  refine wpAnyH_one (i := 5) (by kernel_rfl) rfl (fun K hK => ?_)
  go_simp
  refine CS.mono ?_
  rintro e w7 ⟨rfl, n, c', hit, hcm, hg⟩
  have hz7 := (hg.block _ (heap_lt HZ6.out) (fun e => by have := Option.some.inj e; have := HMB5.out; omega)).trans HZ6.out
  rw [stepM_iter n (s := ([root], c)) HOK.out.fit] at hit
  have HIT := Lib.hid hit
  have HB7 := Lib.hid (below_of_grown HB5.out (World.grownBy.trans HG.out hg) HMB5.out.1)
  have CLI := clist_walk mb (c.length + (1 + B)) c' w7 hcm (by have := HOK.out.len; omega)
  refine hK _ _ hz7 ?_
  clear hK K CS hit hcm hg
  (refine wpAnyH_done (by kernel_rfl) ?_ _)
  have c0 := heap_cell hz7 (j := 0) (v := .map (some mb)) rfl
  clear hz7 hz5
  go_wp2_with fail
  refine CLI.mono ?_
  rintro e w8 ⟨v8, rfl, hr8, hb8⟩
  have HR8 := Lib.hid hr8
  have HB8 := Lib.hid (below_chain HB7.out hb8 HB7.out.size)
  obtain ⟨a8, c8, rfl⟩ := row_slice hr8
  clear CLI hr8 hb8
  go_wp2
  go_ret2
  exact HFIN.out _ _ ⟨_, c', 0, rfl, HR8.out, HB8.out, .inl ⟨H0.out, rfl, n, HIT.out⟩⟩
end Go.Proofs.YtaompdnnkfmjhaaGreatDoor

namespace Go.Proofs.YtaompdnnkfmjhaaGreatDoor
open Go.RowKit

set_option maxHeartbeats 2000000 in
set_option maxRecDepth 100000 in
theorem idxCnt_walk (g0 : Nat) (caps : Array Value) (p : Cnt → Bool) (a : Option Addr) (c : Nat) (l : List Cnt) (w : World) (hr : Row cnC w (.slice a l.length c) l) (hcnt : l.length ≤ 1100000)
    (hen : ∀ args w, (callFunc g0 args).run Tryz.prog w = .ok (.enter g0 args) w)
    (hp : ∀ x ∈ l, ∀ w', Below w.heap.size w w' → Calls Tryz.prog g0 (#[CnV x] ++ caps) w' fun e w'' => e = .returned (.bool (p x)) ∧ Below w'.heap.size w' w'') :
    Calls Tryz.prog 47 #[.slice a l.length c, .func (.func g0) #[] caps] w fun e w' => e = .returned (.int .i64 (idxP p l)) ∧ Below w.heap.size w w' := by
  obtain ⟨a', c', hv, hc, hm, hx⟩ := hr
  cases hv
  have HX := Lib.hid hx
  have HP := Lib.hid hp
  clear hx hp
  go_enter Tryz.func47, Tryz.ntmps47
  go_wp2
  go_loopw [8] (fun i wr => ∃ k : Nat, k ≤ l.length ∧ i = .int .i64 k ∧ (∀ x ∈ l.take k, p x = false) ∧ Below w.heap.size w wr) (fun i _ => l.length - (intOf i).toNat)
  case atStart => exact ⟨0, Nat.zero_le _, rfl, by simp, Below.refl _ _⟩
  case round =>
    obtain ⟨k, hk, rfl, hall, hB⟩ := hrel
    have HALL := Lib.hid hall
    have HB := Lib.hid hB
    clear hall
    by_cases h1 : k < l.length
    · have hx := HX.out
      rcases hx with hx | ⟨b, o, rfl, hx⟩
      · exfalso; rw [hx] at h1; simp at h1
      have hfacts := cnt_cells hx h1
      have HE := Lib.hid (fun h => idxP_at h1 HALL.out h)
      have HN := Lib.hid (fun h => none_step h1 HALL.out h)
      have CL := fun w' h => HP.out l[k] (List.getElem_mem h1) w' h
      clear hx
      generalize l[k] = y at *
      obtain ⟨qb, hqb⟩ : ∃ qb, p y = qb := ⟨_, rfl⟩
      rw [hqb] at CL HE HN
      clear hqb
      obtain ⟨key, raw⟩ := y
      obtain ⟨hx1, hx2⟩ := hfacts
      have hc1 := cell_below hB hx1; have hc2 := cell_below hB hx2; clear hx1 hx2
      have h1' : (k : Int) < (l.length : Int) := by omega
      have CL2 := CL wr hB
      clear hB CL
      cases qb with
      | true =>
        have HF := Lib.hid (HE.out rfl)
        clear HE HN
        go_wp2_with (refine CL2.mono ?_; rintro e w1 ⟨rfl, hb1⟩)
        go_ret
        exact ⟨by rw [HF.out]; rfl, below_chain HB.out hb1 HB.out.size⟩
      | false =>
        have HF := Lib.hid (HN.out rfl)
        clear HE HN
        go_wp2_with (refine CL2.mono ?_; rintro e w1 ⟨rfl, hb1⟩)
        go_roundw
        case rel => exact ⟨k + 1, by omega, by go_num, HF.out, below_chain HB.out hb1 HB.out.size⟩
        case measure => simp [intOf]; omega
    · have h1' : ¬ (k : Int) < (l.length : Int) := by omega
      have HF := Lib.hid (show idxP p l = -1 from idxP_none (by have := HALL.out; rwa [List.take_of_length_le (by omega)] at this))
      go_wp2
      go_ret
      exact ⟨by rw [HF.out]; rfl, HB.out⟩
end Go.Proofs.YtaompdnnkfmjhaaGreatDoor

namespace Go.Proofs.YtaompdnnkfmjhaaGreatDoor
open Go.RowKit

theorem idxP_find {α : Type} (p : α → Bool) : ∀ (l : List α), (idxP p l = -1 ∧ l.find? p = none) ∨ ∃ k : Nat, k < l.length ∧ idxP p l = (k : Int) ∧ l.find? p = l[k]?
  | [] => .inl ⟨rfl, rfl⟩
  | x :: l => by
    by_cases h : p x = true
    · refine .inr ⟨0, by simp, ?_, ?_⟩
      · show (if p x then (0 : Int) else if idxP p l = -1 then -1 else idxP p l + 1) = ((0 : Nat) : Int)
        rw [if_pos h]; rfl
      · rw [List.find?_cons_of_pos h]; rfl
    · have e : idxP p (x :: l) = if idxP p l = -1 then -1 else idxP p l + 1 := by
        show (if p x then (0 : Int) else if idxP p l = -1 then -1 else idxP p l + 1) = _
        rw [if_neg h]
      rcases idxP_find p l with ⟨h1, h2⟩ | ⟨k, hk, h1, h2⟩
      · refine .inl ⟨by rw [e, if_pos h1], ?_⟩
        rw [List.find?_cons_of_neg h]; exact h2
      · refine .inr ⟨k + 1, by simp; omega, ?_, ?_⟩
        · rw [e, h1, if_neg (by omega)]; omega
        · rw [List.find?_cons_of_neg h, h2]; rfl

set_option maxHeartbeats 2000000 in
set_option maxRecDepth 100000 in
theorem cn1_walk (x : Cnt) (key : List UInt8) (cb : Nat) (w : World) (hb : w.heap[cb]? = some (.cells #[S key] 9 (0, 0))) :
    Calls Tryz.prog 48 (#[CnV x] ++ #[.pointer (some ⟨cb, 0, none⟩)]) w fun e w' => e = .returned (.bool (x.1 == key)) ∧ Below w.heap.size w w' := by
  obtain ⟨p, n⟩ := x
  show Calls _ _ #[.agg #[S p, .int .i64 n], .pointer (some ⟨cb, 0, none⟩)] _ _
  obtain ⟨w1, hw1, HB1, hz, hk⟩ : ∃ w1, w1 = w.alloc (.cells #[S p, .int .i64 n] 41) ∧ Hid (Below w.heap.size w w1) ∧ w1.heap[w.heap.size]? = some (.cells #[S p, .int .i64 n] 41 (0, 0)) ∧ w1.heap[cb]? = some (.cells #[S key] 9 (0, 0)) :=
    ⟨_, rfl, Lib.hid ((Below.refl _ _).alloc (Nat.le_refl _) _), heap_alloc_new _ _, (Below.heap_alloc _ _ _ (heap_lt hb)).trans hb⟩
  obtain ⟨⟨z0, z1⟩, -, -⟩ := box2 hz
  have c0 := heap_cell hk (j := 0) (v := S key) rfl
  clear hb hz hk
  simp only
  go_enter Tryz.func48, Tryz.ntmps48
  go_upto_region 1 with fail
  rw [← hw1]
  clear hw1
  go_wp2
  go_ret
  exact ⟨rfl, HB1.out⟩

set_option maxHeartbeats 2000000 in
set_option maxRecDepth 100000 in
theorem cN_walk (v : Value) (c : List Cnt) (key : List UInt8) (w : World) (hr : CntRow w v c) (hcnt : c.length ≤ 1100000) :
    Calls Tryz.prog 23 #[v, S key] w fun e w' => e = .returned (.int .i64 (cntC c key)) ∧ Below w.heap.size w w' := by
  obtain ⟨w1, hw1, HB1, hz⟩ : ∃ w1, w1 = w.alloc (.cells #[S key] 9) ∧ Hid (Below w.heap.size w w1) ∧ w1.heap[w.heap.size]? = some (.cells #[S key] 9 (0, 0)) :=
    ⟨_, rfl, Lib.hid ((Below.refl _ _).alloc (Nat.le_refl _) _), heap_alloc_new _ _⟩
  obtain ⟨a, cc, rfl⟩ := row_slice hr
  have HR1 := Lib.hid (hr.below HB1.out)
  have CI := idxCnt_walk 48 #[.pointer (some ⟨w.heap.size, 0, none⟩)] (fun y => y.1 == key) a cc c w1 HR1.out hcnt (fun args w => by first | rfl | kernel_rfl)
    (fun x _ w' hb => cn1_walk x key w.heap.size w' ((hb.block _ (heap_lt hz)).trans hz))
  have HF := Lib.hid (idxP_find (fun y : Cnt => y.1 == key) c)
  have HCN := Lib.hid (show cntC c key = match c.find? (fun y => y.1 == key) with | some y => y.2 | none => 0 from rfl)
  generalize cntC c key = res at *
  generalize idxP (fun y : Cnt => y.1 == key) c = ix at *
  generalize c.find? (fun y => y.1 == key) = fd at *
  clear hr hz
  go_enter Tryz.func23, Tryz.ntmps23
  go_upto_region 1 with fail
  rw [← hw1]
  clear hw1
  go_wp2_with fail
  refine CI.mono ?_
  rintro e w2 ⟨rfl, hb2⟩
  have HB2 := Lib.hid (below_chain HB1.out hb2 HB1.out.size)
  have HR2 := Lib.hid (HR1.out.below hb2)
  clear CI hb2
  rcases HF.out with ⟨rfl, rfl⟩ | ⟨k, hk, rfl, rfl⟩
  · have HRES := Lib.hid (show res = 0 from HCN.out)
    go_wp2
    go_ret
    exact ⟨by rw [HRES.out]; rfl, HB2.out⟩
  · have hk0 : (0 : Int) ≤ (k : Int) := by omega
    have hk' : (k : Int) < (c.length : Int) := by omega
    have HRES := Lib.hid (show res = c[k].2 by rw [HCN.out, List.getElem?_eq_getElem hk])
    obtain ⟨_, _, hve, -, -, hx⟩ := HR2.out
    cases hve
    rcases hx with hx | ⟨g, go, rfl, hx⟩
    · exfalso; rw [hx] at hk; simp at hk
    have m2 := (cnt_cells hx hk).2
    clear hx HCN HF
    generalize c[k].2 = nn at *
    go_wp2
    go_ret
    exact ⟨by rw [HRES.out]; rfl, HB2.out⟩
end Go.Proofs.YtaompdnnkfmjhaaGreatDoor
