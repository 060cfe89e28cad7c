/- The reference's put of a node's object. The reference's Build at no items. slices.IndexFunc and slices.ContainsFunc, at silo/api.Object; the closure by its contract. fetch.Check. Chapter 13's examples. The reference's objects of a file. -/
import Derived.Test.YtkejdbidomlonaaGreatDoorJRKey11
import Derived.Test.YtkejdbidomlonaaGreatDoorJKeyNP
import Derived.Test.YtkejdbidomlonaaGreatDoorJNodeFit
import Derived.Test.YtkejdbidomlonaaGreatDoorJPlain
import Derived.Test.YtkejdbidomlonaaGreatDoorPSha5
import Derived.Test.YtkejdbidomlonaaGreatDoorJTree13
import Derived.Test.YtkejdbidomlonaaGreatDoorJBuildPlain
import Derived.Test.YtkejdbidomlonaaGreatDoorRCdc
import Derived.Test.YtkejdbidomlonaaGreatDoorJR11b
import Derived.RangeFuncBox
namespace Go.Proofs.YtkejdbidomlonaaGreatDoor
open Go.RowKit

set_option maxHeartbeats 4000000 in
set_option maxRecDepth 100000 in
theorem rput12b_walk (lv vp ve : Value) (l : List Snp) (n : Nod) (w : World) (hl : SnpRow w lv l) (hr : NodRow w n vp ve) (hcnt : l.length ≤ 1000000) (hd : n.data.length ≤ 1100000) (hp : n.parts.length ≤ 1100000) (he : n.ents.length ≤ 1100000) (hnl : ∀ e ∈ n.ents, e.1.length ≤ 1100000) :
    Calls Tryz.prog 43 #[lv, NodV n vp ve] w fun e w' => ∃ v', e = .returned (.tuple #[v', S (keyN n)]) ∧ SnpRow w' v' (addO l (keyN n, writeN n)) ∧ OGot w w' lv l v' (addO l (keyN n, writeN n)) ∧ Below w.heap.size w w' := by
  have HL := Lib.hid hl
  obtain ⟨la, lc, rfl, -⟩ := hl
  obtain ⟨pa, pc, rfl⟩ := row_slice hr.parts
  obtain ⟨ua, uc, rfl⟩ := row_slice hr.ents
  obtain ⟨w1, hw1, hb1, hz⟩ : ∃ w1, w1 = w.alloc (.cells #[.int .i64 n.kind, S n.data, .slice pa n.parts.length pc, .slice ua n.ents.length uc] 77) ∧ Below w.heap.size w w1 ∧ w1.heap[w.heap.size]? = some (.cells #[.int .i64 n.kind, S n.data, .slice pa n.parts.length pc, .slice ua n.ents.length uc] 77 (0, 0)) :=
    ⟨_, rfl, (Below.refl _ _).alloc (Nat.le_refl _) _, heap_alloc_new _ _⟩
  have CK := rkey11_walk (.slice pa n.parts.length pc) (.slice ua n.ents.length uc) n w1 (hr.below hb1) hd hp he hnl
  have CW := fun W h => rwrite11_walk (.slice pa n.parts.length pc) (.slice ua n.ents.length uc) n W h hd hp he hnl
  have HR1 := Lib.hid (hr.below hb1)
  have HB1 := Lib.hid hb1
  have HZ := Lib.hid hz
  have CA := fun (kn wn : List UInt8) (W : World) h => r12add2_walk (.slice la l.length lc) l (kn, wn) W h (by omega)
  generalize keyN n = kn at *
  generalize writeN n = wn at *
  obtain ⟨⟨z0, z1, z2, z3⟩, -, -⟩ := box4 hz
  clear hr hb1 hz
  go_enter Tryz.func43, Tryz.ntmps43
  go_upto_region 1 with fail
  rw [← hw1]
  clear hw1
  go_wp2_with fail
  refine CK.mono ?_
  rintro e w2 ⟨rfl, hb2⟩
  have CW2 := CW w2 (HR1.out.below hb2)
  obtain ⟨⟨y0, y1, y2, y3⟩, -, -⟩ := box4 ((hb2.block _ (heap_lt HZ.out)).trans HZ.out)
  have HB2 := Lib.hid (below_chain HB1.out hb2 HB1.out.size)
  clear CK CW z0 z1 z2 z3 hb2
  go_wp2_with fail
  refine CW2.mono ?_
  rintro e w3 ⟨rfl, hb3⟩
  have HB3 := Lib.hid (below_chain HB2.out hb3 HB2.out.size)
  have CA3 := CA kn wn w3 (HL.out.below HB3.out)
  clear CW2 CA hb3 y0 y1 y2 y3
  go_wp2_with fail
  refine CA3.mono ?_
  rintro e w4 ⟨v4, rfl, hr4, hg4, hb4⟩
  have HR4 := Lib.hid hr4
  have HG4 := Lib.hid (show OGot w w4 (.slice la l.length lc) l v4 (addO l (kn, wn)) from hg4.imp id fun h => own_base h HB3.out.size)
  have HB4 := Lib.hid (below_chain HB3.out hb4 HB3.out.size)
  clear CA3 hr4 hb4 hg4
  go_wp2
  go_ret2
  exact ⟨_, rfl, HR4.out, HG4.out, HB4.out⟩
theorem rput12_walk (lv vp ve : Value) (l : List Snp) (n : Nod) (w : World) (hl : SnpRow w lv l) (hr : NodRow w n vp ve) (hcnt : l.length ≤ 1000000) (hd : n.data.length ≤ 1100000) (hp : n.parts.length ≤ 1100000) (he : n.ents.length ≤ 1100000) (hnl : ∀ e ∈ n.ents, e.1.length ≤ 1100000) :
    Calls Tryz.prog 43 #[lv, NodV n vp ve] w fun e w' => ∃ v', e = .returned (.tuple #[v', S (keyN n)]) ∧ SnpRow w' v' (addO l (keyN n, writeN n)) ∧ Below w.heap.size w w' :=
  (rput12b_walk lv vp ve l n w hl hr hcnt hd hp he hnl).mono fun _ _ ⟨v', h1, h2, _, h3⟩ => ⟨v', h1, h2, h3⟩
theorem OGot.row {w w' : World} {lv v' : Value} {l o : List Snp} (h : OGot w w' lv l v' o) (hr : SnpRow w lv l) (hb : Below w.heap.size w w') : SnpRow w' v' o := by
  rcases h with ⟨rfl, rfl⟩ | h
  · exact hr.below hb
  · exact Row.of_owns h
theorem OGot.refl (w : World) (lv : Value) (l : List Snp) : OGot w w lv l lv l := .inl ⟨rfl, rfl⟩
theorem OGot.below {w w' w2 : World} {lv v' : Value} {l o : List Snp} (h : OGot w w' lv l v' o) (hb : Below w'.heap.size w' w2) : OGot w w2 lv l v' o := h.imp id fun h => own_on h hb
theorem OGot.trans {w w1 w2 : World} {lv v1 v2 : Value} {l l1 l2 : List Snp} (h : OGot w w1 lv l v1 l1) (hg : OGot w1 w2 v1 l1 v2 l2) (hb : Below w1.heap.size w1 w2) (hs : w.heap.size ≤ w1.heap.size) : OGot w w2 lv l v2 l2 := by
  rcases hg with ⟨rfl, rfl⟩ | hg
  · exact h.below hb
  · exact .inr (own_base hg hs)
/-- A block of another type may turn. -/
theorem own_type {w w' : World} {b e e' K n g : Nat} {v : Value} {xs : List Value} {cs : Array Value} (h : w.ownsRow b e K v n xs) (hg : w.heap[g]? = some (.cells cs e' (0, 0))) (hne : e ≠ e') (hw : ∀ k, k ≠ g → k < w.heap.size → w'.heap[k]? = w.heap[k]?) : w'.ownsRow b e K v n xs :=
  ⟨h.1, h.2.imp id fun ⟨j, cap, cur, h1, h2, h3, h4⟩ => ⟨j, cap, cur, h1, h2, (hw j (by rintro rfl; rw [hg] at h3; cases h3; exact hne rfl) (heap_lt h3)).trans h3, h4⟩⟩
theorem OGot.type {w w1 w2 : World} {lv v1 : Value} {l l1 : List Snp} {g e : Nat} {cs : Array Value} (h : OGot w w1 lv l v1 l1) (hg : w1.heap[g]? = some (.cells cs e (0, 0))) (hne : 27 ≠ e) (hw : ∀ k, k ≠ g → k < w1.heap.size → w2.heap[k]? = w1.heap[k]?) : OGot w w2 lv l v1 l1 :=
  h.imp id fun h => own_type h hg hne hw
end Go.Proofs.YtkejdbidomlonaaGreatDoor

namespace Go.Proofs.YtkejdbidomlonaaGreatDoor
open Go.RowKit

abbrev n0D : Nod := ⟨3, [], [], []⟩
abbrev rawD : List UInt8 := [3, 0]
theorem fit0D : FitN n0D := by
  refine .inr (.inr ⟨rfl, rfl, rfl, ?_⟩)
  constructor <;> simp [risesE]
theorem write0D : writeN n0D = rawD := by
  unfold writeN
  rw [if_pos (fitN_iff.2 fit0D)]
  show UInt8.ofNat 3 :: (putV 0 ++ []) = rawD
  rw [putV_small (by omega)]
  rfl
theorem read0D : readN rawD = (n0D, 0) := by
  have h := read_write (n := n0D) fit0D
  rwa [write0D] at h
theorem key0D : keyN n0D = shaF rawD := by
  unfold keyN
  rw [if_pos (fitN_iff.2 fit0D), write0D]

set_option maxHeartbeats 4000000 in
set_option maxRecDepth 100000 in
theorem rbuild0_walk (x y z : Int) (w : World) :
    Calls Tryz.prog 8 #[.agg #[.int .i64 x, .int .i64 y, .int .i64 z], .slice none 0 0] w fun e w' => ∃ v', e = .returned (.tuple #[S (shaF rawD), v']) ∧ SnpRow w' v' [(shaF rawD, rawD)] ∧ Below w.heap.size w w' := by
  have HADD : addO [] (shaF rawD, rawD) = [(shaF rawD, rawD)] := by
    unfold addO
    rw [if_neg (by simp [findR, shaF_len])]
    rfl
  obtain ⟨w1, hw1, HB1, c0, c1, c2⟩ : ∃ w1, w1 = w.alloc (.cells #[.int .i64 x, .int .i64 y, .int .i64 z] 23) ∧ Hid (Below w.heap.size w w1) ∧ w1.cell? ⟨w.heap.size, 0, none⟩ = some (.int .i64 x) ∧ w1.cell? ⟨w.heap.size, 1, none⟩ = some (.int .i64 y) ∧ w1.cell? ⟨w.heap.size, 2, none⟩ = some (.int .i64 z) :=
    ⟨_, rfl, Lib.hid ((Below.refl _ _).alloc (Nat.le_refl _) _), cell_new _ _ _ 0 rfl, cell_new _ _ _ 1 rfl, cell_new _ _ _ 2 rfl⟩
  have CD : Calls Tryz.prog 22 #[.agg #[.int .i64 x, .int .i64 y, .int .i64 z], .slice none 0 0, .slice none 0 0, S [], .int .i64 0] w1 fun e w' => ∃ v', e = .returned (.tuple #[v', S (shaF rawD)]) ∧ SnpRow w' v' [(shaF rawD, rawD)] ∧ Below w1.heap.size w1 w' := by
    obtain ⟨w3, hw3, HB3, hz⟩ : ∃ w3, w3 = (w1.alloc (.cells #[.int .i64 x, .int .i64 y, .int .i64 z] 23)).alloc (.cells #[.int .i64 3, .string ⟨#[]⟩, .slice none 0 0, .slice none 0 0] 77) ∧ Hid (Below w1.heap.size w1 w3) ∧ w3.heap[w1.heap.size + 1]? = some (.cells #[.int .i64 3, .string ⟨#[]⟩, .slice none 0 0, .slice none 0 0] 77 (0, 0)) :=
      ⟨_, rfl, Lib.hid (((Below.refl _ _).alloc (Nat.le_refl _) _).alloc (by simp) _), by rw [show w1.heap.size + 1 = (w1.alloc (.cells #[.int .i64 x, .int .i64 y, .int .i64 z] 23)).heap.size by simp]; exact heap_alloc_new _ _⟩
    obtain ⟨⟨z0, z1, z2, z3⟩, -, -⟩ := box4 hz
    have C := rput12_walk (.slice none 0 0) (.slice none 0 0) (.slice none 0 0) [] n0D w3 (Row.nil _ _) ⟨Row.nil _ _, Row.nil _ _⟩ (by simp) (by simp) (by simp) (by simp) (by simp)
    rw [key0D, write0D, HADD] at C
    clear HADD hz c0 c1 c2 HB1 hw1
    generalize shaF rawD = kk at *
    go_enter Tryz.func22, Tryz.ntmps22
    go_upto_region 2 with fail
    rw [← hw3]
    clear hw3
    go_wp2
    go_loopw [2, 13] (fun v i wr => v = .slice none 0 0 ∧ i = .int .i64 0 ∧ wr = w3) (fun _ _ _ => 0)
    case atStart => exact ⟨rfl, rfl, rfl⟩
    case round =>
      obtain ⟨rfl, rfl, rfl⟩ := hrel
      go_wp2_with fail
      refine C.mono ?_
      rintro e w4 ⟨v4, rfl, hr4, hb4⟩
      have HR4 := Lib.hid hr4
      have HB4 := Lib.hid (below_chain HB3.out hb4 HB3.out.size)
      clear C hr4 hb4
      go_wp2
      go_ret2
      exact ⟨_, rfl, HR4.out, HB4.out⟩
  clear HADD
  generalize shaF rawD = kk at *
  go_enter Tryz.func8, Tryz.ntmps8
  go_upto_region 1 with fail
  rw [← hw1]
  clear hw1
  go_wp2_with fail
  refine CD.mono ?_
  rintro e w4 ⟨v4, rfl, hr4, hb4⟩
  have HR4 := Lib.hid hr4
  have HB4 := Lib.hid (below_chain HB1.out hb4 HB1.out.size)
  clear CD hr4 hb4
  go_wp2
  go_ret2
  exact ⟨_, rfl, HR4.out, HB4.out⟩
end Go.Proofs.YtkejdbidomlonaaGreatDoor

namespace Go.Proofs.YtkejdbidomlonaaGreatDoor
open Go.RowKit

set_option maxHeartbeats 2000000 in
set_option maxRecDepth 100000 in
theorem idxObj_walk (g0 : Nat) (caps : Array Value) (p : Snp → Bool) (a : Option Addr) (c : Nat) (l : List Snp) (w : World) (hr : Row snpC w (.slice a l.length c) l) (hcnt : l.length ≤ 1100000)
    (hen : ∀ args w, (callFunc g0 args).run Tryz.prog w = .ok (.enter g0 args) w)
    (hp : ∀ x ∈ l, ∀ w', Below w.heap.size w w' → Calls Tryz.prog g0 (#[SnpV x] ++ caps) w' fun e w'' => e = .returned (.bool (p x)) ∧ Below w'.heap.size w' w'') :
    Calls Tryz.prog 65 #[.slice a l.length c, .func (.func g0) #[] caps] w fun e w' => e = .returned (.int .i64 (idxP p l)) ∧ Below w.heap.size w w' := by
  obtain ⟨a', c', hv, hc, hm, hx⟩ := hr
  cases hv
  have HX := Lib.hid hx
  have HP := Lib.hid hp
  clear hx hp
  go_enter Tryz.func65, Tryz.ntmps65
  go_wp2
  go_loopw [8] (fun i wr => ∃ k : Nat, k ≤ l.length ∧ i = .int .i64 k ∧ (∀ x ∈ l.take k, p x = false) ∧ Below w.heap.size w wr) (fun i _ => l.length - (intOf i).toNat)
  case atStart => exact ⟨0, Nat.zero_le _, rfl, by simp, Below.refl _ _⟩
  case round =>
    obtain ⟨k, hk, rfl, hall, hB⟩ := hrel
    have HALL := Lib.hid hall
    have HB := Lib.hid hB
    clear hall
    by_cases h1 : k < l.length
    · have hx := HX.out
      rcases hx with hx | ⟨b, o, rfl, hx⟩
      · exfalso; rw [hx] at h1; simp at h1
      have hfacts := snp_cells hx h1
      have HE := Lib.hid (fun h => idxP_at h1 HALL.out h)
      have HN := Lib.hid (fun h => none_step h1 HALL.out h)
      have CL := fun w' h => HP.out l[k] (List.getElem_mem h1) w' h
      clear hx
      generalize l[k] = y at *
      obtain ⟨qb, hqb⟩ : ∃ qb, p y = qb := ⟨_, rfl⟩
      rw [hqb] at CL HE HN
      clear hqb
      obtain ⟨key, raw⟩ := y
      obtain ⟨hx1, hx2⟩ := hfacts
      have hc1 := cell_below hB hx1; have hc2 := cell_below hB hx2; clear hx1 hx2
      have h1' : (k : Int) < (l.length : Int) := by omega
      have CL2 := CL wr hB
      clear hB CL
      cases qb with
      | true =>
        have HF := Lib.hid (HE.out rfl)
        clear HE HN
        go_wp2_with (refine CL2.mono ?_; rintro e w1 ⟨rfl, hb1⟩)
        go_ret
        exact ⟨by rw [HF.out]; rfl, below_chain HB.out hb1 HB.out.size⟩
      | false =>
        have HF := Lib.hid (HN.out rfl)
        clear HE HN
        go_wp2_with (refine CL2.mono ?_; rintro e w1 ⟨rfl, hb1⟩)
        go_roundw
        case rel => exact ⟨k + 1, by omega, by go_num, HF.out, below_chain HB.out hb1 HB.out.size⟩
        case measure => simp [intOf]; omega
    · have h1' : ¬ (k : Int) < (l.length : Int) := by omega
      have HF := Lib.hid (show idxP p l = -1 from idxP_none (by have := HALL.out; rwa [List.take_of_length_le (by omega)] at this))
      go_wp2
      go_ret
      exact ⟨by rw [HF.out]; rfl, HB.out⟩

set_option maxHeartbeats 1100000 in
/-- slices.ContainsFunc: whether one is. -/
theorem hasObj_walk (g0 : Nat) (caps : Array Value) (p : Snp → Bool) (v : Value) (l : List Snp) (w : World) (hr : Row snpC w v l) (hcnt : l.length ≤ 1100000)
    (hen : ∀ args w, (callFunc g0 args).run Tryz.prog w = .ok (.enter g0 args) w)
    (hp : ∀ x ∈ l, ∀ w', Below w.heap.size w w' → Calls Tryz.prog g0 (#[SnpV x] ++ caps) w' fun e w'' => e = .returned (.bool (p x)) ∧ Below w'.heap.size w' w'') :
    Calls Tryz.prog 37 #[v, .func (.func g0) #[] caps] w fun e w' => e = .returned (.bool (l.any p)) ∧ Below w.heap.size w w' := by
  obtain ⟨a, c, rfl, hc, hm, hx⟩ := hr
  have CI := idxObj_walk g0 caps p a c l w ⟨a, c, rfl, hc, hm, hx⟩ hcnt hen hp
  clear hx hp hen
  rcases idxP_cases p l with ⟨e1, hall⟩ | ⟨k0, hk0, e1, hall, hpk⟩
  · have HF := Lib.hid (show l.any p = false by rw [List.any_eq_false]; intro x hx; rw [hall x hx]; simp)
    rw [e1] at CI
    clear hall e1
    go_enter Tryz.func37, Tryz.ntmps37
    go_wp2_with (go_at_call 65; refine (CI).mono ?_; rintro e w1 ⟨rfl, hb1⟩)
    go_ret
    exact ⟨by rw [HF.out]; rfl, hb1⟩
  · have HF := Lib.hid (show l.any p = true by rw [List.any_eq_true]; exact ⟨_, List.getElem_mem hk0, hpk⟩)
    rw [e1] at CI
    have hk : (0 : Int) ≤ (k0 : Int) := by omega
    clear hall e1 hpk
    go_enter Tryz.func37, Tryz.ntmps37
    go_wp2_with (go_at_call 65; refine (CI).mono ?_; rintro e w1 ⟨rfl, hb1⟩)
    go_ret
    exact ⟨by rw [HF.out]; rfl, hb1⟩
end Go.Proofs.YtkejdbidomlonaaGreatDoor

namespace Go.Proofs.YtkejdbidomlonaaGreatDoor
open Go.RowKit

set_option maxHeartbeats 2000000 in
set_option maxRecDepth 100000 in
theorem check1_walk (x : Snp) (w : World) (hx : x.2.length ≤ 1000000) :
    Calls Tryz.prog 38 #[SnpV x] w fun e w' => e = .returned (.bool (shaF x.2 != x.1)) ∧ Below w.heap.size w w' := by
  obtain ⟨p, q⟩ := x
  obtain ⟨w1, hw1, hb1, hz⟩ : ∃ w1, w1 = w.alloc (.cells #[S p, S q] 27) ∧ Below w.heap.size w w1 ∧ w1.heap[w.heap.size]? = some (.cells #[S p, S q] 27 (0, 0)) :=
    ⟨_, rfl, (Below.refl _ _).alloc (Nat.le_refl _) _, heap_alloc_new _ _⟩
  have l0 := LaterOf.cell (heap_cell hz (j := 0) (v := S p) rfl)
  have l1 := LaterOf.cell (heap_cell hz (j := 1) (v := S q) rfl)
  have CS := fun lw : LaterOf w1 => psha_walk q lw.world (by simp only at hx; omega)
  have HB1 := Lib.hid hb1
  simp only
  obtain ⟨sm, hsm⟩ : ∃ sm, shaF q = sm := ⟨_, rfl⟩
  rw [hsm] at CS
  rw [hsm]
  clear hz hb1 hx hsm
  cases hd : (sm == p) with
  | true =>
    have h2 : (sm != p) = false := by simp [bne, hd]
    rw [h2]
    go_enter Tryz.func38, Tryz.ntmps38
    go_upto_region 1 with fail
    rw [← hw1]
    clear hw1
    go_wp2_with fail
    (refine wp_region_later (by kernel_rfl) (by kernel_rfl) ?_; (repeat (go_big_quiet_step ((go_at_call 39; exact LaterOf.call _ (CS _))))); refine wpQuiet_nil ?_; intro _ hw1; obtain ⟨lw, hw2⟩ := hw1; subst hw2)
    go_wp2
    go_ret
    exact ⟨rfl, below_chain HB1.out lw.below HB1.out.size⟩
  | false =>
    have h2 : (sm != p) = true := by simp [bne, hd]
    rw [h2]
    go_enter Tryz.func38, Tryz.ntmps38
    go_upto_region 1 with fail
    rw [← hw1]
    clear hw1
    go_wp2_with fail
    (refine wp_region_later (by kernel_rfl) (by kernel_rfl) ?_; (repeat (go_big_quiet_step ((go_at_call 39; exact LaterOf.call _ (CS _))))); refine wpQuiet_nil ?_; intro _ hw1; obtain ⟨lw, hw2⟩ := hw1; subst hw2)
    go_wp2
    go_ret
    exact ⟨rfl, below_chain HB1.out lw.below HB1.out.size⟩

set_option maxHeartbeats 1000000 in
theorem check_walk (v : Value) (l : List Snp) (w : World) (hr : SnpRow w v l) (hcnt : l.length ≤ 1100000) (hraw : ∀ x ∈ l, x.2.length ≤ 1000000) :
    Calls Tryz.prog 21 #[v] w fun e w' => e = .returned (.bool (!(l.any fun x => shaF x.2 != x.1))) ∧ Below w.heap.size w w' := by
  have C := hasObj_walk 38 #[] (fun x => shaF x.2 != x.1) v l w hr hcnt (enters_of Tryz.func38 (by kernel_rfl) rfl) (fun x hx w' _ => check1_walk x w' (hraw x hx))
  obtain ⟨a, c, rfl, -⟩ := hr
  obtain ⟨r, hr⟩ : ∃ r, (l.any fun x => shaF x.2 != x.1) = r := ⟨_, rfl⟩
  rw [hr] at C
  rw [hr]
  clear hr hraw
  go_enter Tryz.func21, Tryz.ntmps21
  go_wp2_with fail
  refine C.mono ?_
  rintro e w1 ⟨rfl, hb⟩
  clear C
  go_wp2
  go_ret
  exact ⟨rfl, hb⟩
end Go.Proofs.YtkejdbidomlonaaGreatDoor

namespace Go.Proofs.YtkejdbidomlonaaGreatDoor
open Go.RowKit

theorem find0D {kk raw : List UInt8} : findR [(kk, raw)] kk = some raw := by simp [findR]
theorem find1D {kk raw k : List UInt8} (h : kk ≠ k) : findR [(kk, raw)] k = none := by simp [findR, h]

set_option maxHeartbeats 4000000 in
set_option maxRecDepth 100000 in
theorem awake13_walk (w : World) (hT : ErrT w) : Calls Tryz.prog 7 #[] w fun e w' => e = .returned (.bool true) ∧ Below w.heap.size w w' := by
  have C := rbuild0_walk 2 4 8 w
  obtain ⟨kk, hkk⟩ : ∃ kk, shaF rawD = kk := ⟨_, rfl⟩
  have hlen : kk.length = 32 := by rw [← hkk]; exact shaF_len _
  have hne : kk ≠ [111, 116, 104, 101, 114] := by intro h; rw [h] at hlen; cases hlen
  have HL0 : loadC [(kk, rawD)] kk 3 = 0 := by
    unfold loadC
    rw [find0D]
    simp only [rootOf, Option.isSome_some, Bool.true_eq_false, if_false, read0D, hkk]
    simp
  have HL5 : loadC [(kk, rawD)] [111, 116, 104, 101, 114] 3 = 5 := by
    unfold loadC
    rw [find1D hne]
    rfl
  have hup : upS (namesR [(kk, rawD)]) := by simp [upS, namesR]
  have hraw : ∀ x ∈ [(kk, rawD)], x.2.length ≤ 1000000 := by simp
  have CT := fun v W (h : SnpRow W v [(kk, rawD)]) (hT : ErrT W) => tree0_walk v [(kk, rawD)] kk W h hT hup (by simp) hraw (.inr (by rw [find0D]; simp only [rootOf, read0D]))
  have CF := fun v W (h : SnpRow W v [(kk, rawD)]) (hT : ErrT W) => tree0_walk v [(kk, rawD)] [111, 116, 104, 101, 114] W h hT hup (by simp) hraw (.inl (by rw [HL5]; decide))
  have CH := fun v W (h : SnpRow W v [(kk, rawD)]) => check_walk v [(kk, rawD)] W h (by simp) hraw
  have hany : (!([(kk, rawD)].any fun x => shaF x.2 != x.1)) = true := by simp [hkk]
  rw [HL0] at CT
  rw [HL5] at CF
  rw [hany] at CH
  rw [hkk] at C
  have HT := Lib.hid hT
  generalize [(kk, rawD)] = l at *
  clear hkk hlen hne HL0 HL5 hup hraw hany hT
  go_enter Tryz.func7, Tryz.ntmps7
  go_wp2_with fail
  refine C.mono ?_
  rintro e w1 ⟨v1, rfl, hr1, hb1⟩
  have HR1 := Lib.hid hr1
  have HT1 := Lib.hid (HT.out.below hb1)
  have HB1 := Lib.hid hb1
  have CT1 := CT v1 w1 hr1 HT1.out
  obtain ⟨ra, rc, rfl, -⟩ := hr1
  clear C CT hb1
  go_wp2_with fail
  refine CT1.mono ?_
  rintro e w2 ⟨rfl, hb2⟩
  have HR2 := Lib.hid (HR1.out.below hb2)
  have HT2 := Lib.hid (HT1.out.below hb2)
  have HB2 := Lib.hid (below_chain HB1.out hb2 HB1.out.size)
  have CF2 := CF _ w2 HR2.out HT2.out
  clear CT1 CF hb2
  go_wp2_with fail
  refine CF2.mono ?_
  rintro e w3 ⟨rfl, hb3⟩
  have CH3 := CH _ w3 (HR2.out.below hb3)
  have HB3 := Lib.hid (below_chain HB2.out hb3 HB2.out.size)
  clear CF2 CH hb3
  go_wp2_with fail
  refine CH3.mono ?_
  rintro e w4 ⟨rfl, hb4⟩
  have HB4 := Lib.hid (below_chain HB3.out hb4 HB3.out.size)
  clear CH3 hb4
  go_wp2
  go_ret
  exact ⟨rfl, HB4.out⟩
end Go.Proofs.YtkejdbidomlonaaGreatDoor

namespace Go.Proofs.YtkejdbidomlonaaGreatDoor
open Go.RowKit

theorem nod_kept {w : World} {b : Nat} {a1 a2 a3 a4 : Value} (h : w.heap[b]? = some (.cells #[a1, a2, a3, a4] 77 (0, 0))) (v : Value) : (w.setCell ⟨b, 2, none⟩ v).heap[b]? = some (.cells #[a1, a2, v, a4] 77 (0, 0)) := heap_set_cell (o := 2) h v
theorem own_cell {w : World} {b base e K n : Nat} {v : Value} {xs : List Value} (h : w.ownsRow base e K v n xs) (hb : b < base) (u : Value) (o : Nat) : (w.setCell ⟨b, o, none⟩ u).ownsRow base e K v n xs :=
  h.kept (⟨rfl, rfl, rfl, by simp, fun k _ hne => Below.heap_setCell _ _ _ _ (fun e => hne (by rw [e]))⟩ : w.grownBy (w.setCell ⟨b, o, none⟩ u) (some b)) (by
    rcases h.2 with ⟨h, _⟩ | ⟨g, cap, cur, h, hge, _⟩
    · rw [h]; exact .inl rfl
    · rw [h]; refine .inr ?_; simp [Value.ownBlock]; omega)

theorem own_block2 {w w' : World} {B e K n : Nat} {v : Value} {xs : List Value} (h : w.ownsRow B e K v n xs) (hk : ∀ g, v.ownBlock = some g → w'.heap[g]? = w.heap[g]?) : w'.ownsRow B e K v n xs :=
  ⟨h.1, h.2.imp id fun ⟨g, cap, cur, h1, h2, h3, h4⟩ => ⟨g, cap, cur, h1, h2, (hk g (by rw [h1]; rfl)).trans h3, h4⟩⟩
theorem fold_take {α : Type} (f : List Snp → α → List Snp) (o : List Snp) (l : List α) {k : Nat} (h : k < l.length) : (l.take (k + 1)).foldl f o = f ((l.take k).foldl f o) l[k] := by
  rw [List.take_succ_eq_append_getElem h, List.foldl_append]; rfl

/-- Between two rounds of file. -/
def FileI (w w2 : World) (lv tv : Value) (o : List Snp) (ps : List (List UInt8)) (v i : Value) (wr : World) : Prop :=
  ∃ (k : Nat) (o' : List Snp) (la' : Option Addr) (lc' : Nat) (pa : Option Addr) (pc : Nat), k ≤ ps.length ∧ i = .int .i64 k ∧ v = .slice la' o'.length lc' ∧ Hid (OGot w wr lv o (.slice la' o'.length lc') o') ∧ Hid (o' = (ps.take k).foldl (fun o s => putN o (pieceN s)) o) ∧ o'.length ≤ o.length + k ∧
      wr.heap[w.heap.size + 1]? = some (.cells #[.int .i64 2, .string ⟨#[]⟩, .slice pa k pc, .slice none 0 0] 77 (0, 0)) ∧ Hid (wr.ownsRow (w.heap.size + 2) 100 2 (.slice pa k pc) k (((ps.take k).map partN).flatMap prtC)) ∧ Hid (wr.ownsRow (w2.heap.size + 1) 9 1 tv ps.length (ps.map S)) ∧ Hid (Below w.heap.size w wr)

set_option maxHeartbeats 8000000 in
set_option maxRecDepth 100000 in
theorem rfile12_walk (x k y z : Nat) (lv : Value) (o : List Snp) (data : List UInt8) (w : World) (hf : FitC x k z) (hpk : 2 ^ k = y) (hl : SnpRow w lv o) (hcnt : o.length ≤ 900000) (hd : data.length ≤ 32768) (hps : (piecesC x k z data).length ≤ 1024) :
    Calls Tryz.prog 42 #[PrmV x y z, lv, S data] w fun e w' => ∃ v', e = .returned (.tuple #[v', S (keyN (fileN (piecesC x k z data)))]) ∧ OGot w w' lv o v' (fileO o (piecesC x k z data)) ∧ Below w.heap.size w w' := by
  obtain ⟨i0, hi, hz0, hz1, hz2⟩ := info_parts infoPrt
  have HL := Lib.hid hl
  obtain ⟨la, lc, rfl, -⟩ := hl
  obtain ⟨w1, hw1, hb1, hp1, hs1⟩ : ∃ w1, w1 = w.alloc (.cells #[.int .i64 (x : Nat), .int .i64 (y : Nat), .int .i64 (z : Nat)] 23) ∧ Below w.heap.size w w1 ∧ w1.heap[w.heap.size]? = some (.cells #[.int .i64 (x : Nat), .int .i64 (y : Nat), .int .i64 (z : Nat)] 23 (0, 0)) ∧ w1.heap.size = w.heap.size + 1 :=
    ⟨_, rfl, (Below.refl _ _).alloc (Nat.le_refl _) _, heap_alloc_new _ _, by simp⟩
  obtain ⟨w2, hw2, hb2, hn2, hs2⟩ : ∃ w2, w2 = w1.alloc (.cells #[.int .i64 2, .string ⟨#[]⟩, .slice none 0 0, .slice none 0 0] 77) ∧ Below w1.heap.size w1 w2 ∧ w2.heap[w.heap.size + 1]? = some (.cells #[.int .i64 2, .string ⟨#[]⟩, .slice none 0 0, .slice none 0 0] 77 (0, 0)) ∧ w2.heap.size = w.heap.size + 2 :=
    ⟨_, rfl, (Below.refl _ _).alloc (Nat.le_refl _) _, by rw [← hs1]; exact heap_alloc_new _ _, by rw [World.size_alloc, hs1]⟩
  have hp2 := (hb2.block _ (heap_lt hp1)).trans hp1
  have c0 := heap_cell hp2 (j := 0) (v := .int .i64 (x : Nat)) rfl
  have c1 := heap_cell hp2 (j := 1) (v := .int .i64 (y : Nat)) rfl
  have c2 := heap_cell hp2 (j := 2) (v := .int .i64 (z : Nat)) rfl
  have CP := r07pieces_walk x k y z data w2 hf hpk (by omega)
  have HEACH := Lib.hid (piecesC_each (s := data) hf)
  have HFLAT := Lib.hid (piecesC_flat (s := data) hf)
  have HPS := Lib.hid hps
  obtain ⟨ps, hpse⟩ : ∃ ps, piecesC x k z data = ps := ⟨_, rfl⟩
  rw [hpse] at CP HEACH HFLAT HPS
  rw [hpse]
  have HB2 := Lib.hid (below_chain hb1 hb2 hb1.size)
  have HN2 := Lib.hid hn2
  clear hpse hps hp2 hp1 hn2 hf hpk
  go_enter Tryz.func42, Tryz.ntmps42
  go_upto_region 1 with fail
  rw [← hw1]
  clear hw1
  go_upto_region 2 with fail
  rw [← hw2]
  clear hw2
  go_wp2_with fail
  refine CP.mono ?_
  rintro e w3 ⟨tv, rfl, htr, hb3⟩
  obtain ⟨ta, tc, rfl⟩ : ∃ ta tc, tv = .slice ta ps.length tc := by
    rcases htr.2 with ⟨h, hn⟩ | ⟨g, cap, _, h, _⟩
    · exact ⟨none, 0, by rw [h, hn]⟩
    · exact ⟨_, _, h⟩
  have HTR := Lib.hid htr
  have HB3 := Lib.hid (below_chain HB2.out hb3 HB2.out.size)
  have HS3 := Lib.hid (show w.heap.size + 2 ≤ w3.heap.size by rw [← hs2]; exact hb3.size)
  have HN3 := Lib.hid ((hb3.block _ (heap_lt HN2.out)).trans HN2.out)
  have HL3 := Lib.hid (HL.out.below HB3.out)
  have HS2 := Lib.hid hs2
  have hpl := HPS.out
  clear CP c0 c1 c2 hb1 hb2 hb3 htr HN2 hs1 hs2
  go_wp2
  go_loopw [1, 10, 11] (fun v i _ wr => FileI w w2 (.slice la o.length lc) (.slice ta ps.length tc) o ps v i wr) (fun _ i _ _ => ps.length - (intOf i).toNat)
  case atStart => exact ⟨0, o, la, lc, none, 0, Nat.zero_le _, rfl, rfl, Lib.hid (.inl ⟨rfl, rfl⟩), Lib.hid rfl, by omega, HN3.out, Lib.hid (World.ownsRow_nil _ _ _ _), HTR, HB3⟩
  case round =>
    obtain ⟨k, o', la', lc', pa, pc, hk, rfl, rfl, HLR, HO, hol, hbx, HPR, HTW, HB⟩ := hrel
    clear HTR HL3 HN3 HB3
    obtain ⟨⟨z0, z1, z2, z3⟩, ⟨y0, y1, y2, y3⟩, ⟨x0, x1, x2, x3⟩⟩ := box4 hbx
    have HLW := Lib.hid (HLR.out.row HL.out HB.out)
    by_cases h1 : k < ps.length
    · have h1' : (k : Int) < (ps.length : Int) := by omega
      obtain ⟨_, _, hv, _, _, hx⟩ := StrRow.of_owns HTW.out
      cases hv
      rcases hx with hx | ⟨g, o2, rfl, hx⟩
      · exfalso; rw [hx] at h1; simp at h1
      have hc1 := str_cell hx h1
      have HFT := Lib.hid (show (ps.take (k + 1)).foldl (fun o s => putN o (pieceN s)) o = putN o' (pieceN ps[k]) by rw [fold_take _ _ _ h1, HO.out])
      have HPT := Lib.hid (show ((ps.take (k + 1)).map partN).flatMap prtC = ((ps.take k).map partN).flatMap prtC ++ [S (keyN (pieceN ps[k])), .int .i64 (ps[k].length : Nat)] by rw [List.take_succ_eq_append_getElem h1, List.map_append, List.flatMap_append]; rfl)
      have hsl := (HEACH.out ps[k] (by simp)).2
      generalize ps[k] = s at *
      have CQ : Calls Tryz.prog 43 #[.slice la' o'.length lc', .agg #[.int .i64 1, S s, .slice none 0 0, .slice none 0 0]] wr _ := rput12b_walk (.slice la' o'.length lc') (.slice none 0 0) (.slice none 0 0) o' (pieceN s) wr HLW.out ⟨Row.nil _ _, Row.nil _ _⟩ (by omega) (by simp; omega) (by simp) (by simp) (by simp)
      clear hx
      go_wp2_with fail
      refine CQ.mono ?_
      rintro e w4 ⟨v4, rfl, hr4, hg4, hb4⟩
      have HL4 := Lib.hid (show (putN o' (pieceN s)).length ≤ o'.length + 1 from addO_len _ _)
      change SnpRow w4 v4 (putN o' (pieceN s)) at hr4
      change OGot wr w4 _ o' v4 (putN o' (pieceN s)) at hg4
      generalize putN o' (pieceN s) = o4 at *
      generalize keyN (pieceN s) = kk at *
      obtain ⟨qa, qc, rfl⟩ := row_slice hr4
      obtain ⟨w5, hw5, HR5, hbx5, HPR5, HTR5, HB5, hc5⟩ : ∃ w5 : World, w5 = { w4 with drawn := w4.drawn + 1 } ∧ Hid (OGot w w5 (.slice la o.length lc) o (.slice qa o4.length qc) o4) ∧ w5.heap[w.heap.size + 1]? = some (.cells #[.int .i64 2, .string ⟨#[]⟩, .slice pa k pc, .slice none 0 0] 77 (0, 0)) ∧ Hid (w5.ownsRow (w.heap.size + 2) 100 2 (.slice pa k pc) k (((ps.take k).map partN).flatMap prtC)) ∧ Hid (w5.ownsRow (w2.heap.size + 1) 9 1 (.slice (some ⟨g, o2, none⟩) ps.length tc) ps.length (ps.map S)) ∧ Hid (Below w.heap.size w w5) ∧ w5.cell? ⟨g, o2 + k, none⟩ = some (S s) := by
        have hd : Below wr.heap.size wr { w4 with drawn := w4.drawn + 1 } := hb4.trans ⟨rfl, rfl, rfl, Nat.le_refl _, fun _ _ => rfl⟩
        exact ⟨_, rfl, Lib.hid ((HLR.out.trans hg4 hb4 HB.out.size).below ⟨rfl, rfl, rfl, Nat.le_refl _, fun _ _ => rfl⟩), (hd.block _ (heap_lt hbx)).trans hbx, Lib.hid (own_on HPR.out hd), Lib.hid (own_on HTW.out hd), Lib.hid (below_chain HB.out hd HB.out.size), cell_below hd hc1⟩
      clear CQ hr4 hg4 hb4 z0 z1 z2 z3 y0 y1 y2 y3 x0 x1 x2 x3 hbx hc1
      go_upto_region 8 with fail
      obtain ⟨⟨z0, z1, z2, z3⟩, ⟨y0, y1, y2, y3⟩, ⟨x0, x1, x2, x3⟩⟩ := box4 hbx5
      obtain ⟨⟨q0, q1, q2, q3⟩, -, -⟩ := box4 ((Below.heap_alloc w5 (.cells #[S kk, .int .i64 s.length] 100) _ (heap_lt hbx5)).trans hbx5)
      have HSL := Lib.hid (show w.heap.size + 2 ≤ w5.heap.size from by have := heap_lt hbx5; omega)
      have HOA := Lib.hid (HPR5.out.alloc (.cells #[S kk, .int .i64 s.length] 100))
      have HNC := Lib.hid (new_cells w5 (S kk) (.int .i64 s.length) 100)
      have HFIN := Lib.hid (fun (w7 : World) (g' cap' : Nat) (hown' : w7.ownsRow (w.heap.size + 2) 100 2 (.slice (some ⟨g', 0, none⟩) (k + 1) cap') (k + 1) (((ps.take k).map partN).flatMap prtC ++ [S kk, .int .i64 s.length])) (hgrow : (w5.alloc (.cells #[S kk, .int .i64 s.length] 100)).grownBy w7 (Value.slice pa k pc).ownBlock) =>
        show Hid (w7.heap[w.heap.size + 1]? = some (.cells #[.int .i64 2, .string ⟨#[]⟩, .slice pa k pc, .slice none 0 0] 77 (0, 0))) ∧ Hid (FileI w w2 (.slice la o.length lc) (.slice (some ⟨g, o2, none⟩) ps.length tc) o ps (.slice qa o4.length qc) (.int .i64 ((k : Int) + 1)) (w7.setCell ⟨w.heap.size + 1, 2, none⟩ (.slice (some ⟨g', 0, none⟩) (k + 1) cap'))) from by
        have hne : ∀ j, (Value.slice pa k pc).ownBlock = some j → w.heap.size + 2 ≤ j := fun j hj => (HOA.out.lt j hj).1
        have hold : ∀ j, j < w5.heap.size → some j ≠ (Value.slice pa k pc).ownBlock → w7.heap[j]? = w5.heap[j]? := fun j hj hn => (hgrow.block j (by rw [World.size_alloc]; omega) hn).trans (Below.heap_alloc _ _ _ hj)
        have hb7 : w7.heap[w.heap.size + 1]? = some (.cells #[.int .i64 2, .string ⟨#[]⟩, .slice pa k pc, .slice none 0 0] 77 (0, 0)) := (hold _ (heap_lt hbx5) (fun e => by have := hne _ e.symm; omega)).trans hbx5
        have hB7 : Below w.heap.size w w7 := (HB5.out.alloc HB5.out.size _).grown hgrow (by rw [World.size_alloc]; have := HB5.out.size; omega) (fun j hj => by have := hne j hj; omega)
        have hg7 : OGot w w7 (.slice la o.length lc) o (.slice qa o4.length qc) o4 := by
          have h5 := HR5.out
          rcases HPR5.out.2 with ⟨h, _⟩ | ⟨gg, cap, cur, h, _, hgg, _⟩
          · refine h5.imp id fun h5 => ?_
            exact own_block2 h5 fun j hj => hold j (h5.lt j hj).2 (by rw [h]; simp [Value.ownBlock])
          · exact h5.type hgg (by decide) (fun j hj hlt => hold j hlt (by rw [h]; simp [Value.ownBlock]; exact hj))
        have ht7 : w7.ownsRow (w2.heap.size + 1) 9 1 (.slice (some ⟨g, o2, none⟩) ps.length tc) ps.length (ps.map S) := by
          have h5 := HTR5.out
          rcases HPR5.out.2 with ⟨h, _⟩ | ⟨gg, cap, cur, h, _, hgg, _⟩
          · exact own_block2 h5 fun j hj => hold j (h5.lt j hj).2 (by rw [h]; simp [Value.ownBlock])
          · exact own_type h5 hgg (by decide) (fun j hj hlt => hold j hlt (by rw [h]; simp [Value.ownBlock]; exact hj))
        refine ⟨Lib.hid hb7, Lib.hid ⟨k + 1, o4, qa, qc, some ⟨g', 0, none⟩, cap', by omega, by go_num, rfl, Lib.hid (hg7.type hb7 (by decide) (fun j hj _ => Below.heap_setCell _ _ _ _ hj)), Lib.hid HFT.out.symm, by have := HL4.out; omega, nod_kept hb7 _, Lib.hid (own_cell (by rw [HPT.out]; exact hown') (by omega) _ _), Lib.hid (own_cell ht7 (by have := HS2.out; omega) _ _), Lib.hid (hB7.setCell (p := ⟨w.heap.size + 1, 2, none⟩) (by show w.heap.size ≤ w.heap.size + 1; omega) _)⟩⟩)
      (refine wp_region_held (S := fun _ => True) (by kernel_rfl) ?_)
      rw [← hw5]
      clear hw5
      (refine wpAnyH_take (i := 0) (v := ?_) rfl (by kernel_rfl) (by kernel_rfl) (by kernel_rfl) (fun _ _ _ h => h) (Or.inl ⟨by rfl, ?_⟩) (by exact trivial) ?_; rotate_left; (intro w9 hS9; skip; go_simp; try with_reducible rfl))
      (refine wpAnyH_take (i := 2) (v := ?_) rfl (by kernel_rfl) (by kernel_rfl) (by kernel_rfl) (fun _ _ _ h => h) (Or.inl ⟨by rfl, ?_⟩) (by exact trivial) ?_; rotate_left; (intro w9 hS9; skip; go_simp; try with_reducible rfl))
      (refine wpAnyH_take (i := 3) (v := ?_) rfl (by kernel_rfl) (by kernel_rfl) (by kernel_rfl) (fun _ _ _ h => h) (Or.inl ⟨by rfl, ?_⟩) (by exact trivial) ?_; rotate_left; (intro w9 hS9; skip; go_simp; try with_reducible rfl))
      (refine wpAnyH_take (i := 4) (v := ?_) rfl (by kernel_rfl) (by kernel_rfl) (by kernel_rfl) (fun _ _ _ h => h) (Or.inl ⟨by rfl, ?_⟩) (by exact trivial) ?_; rotate_left; (intro w9 hS9; skip; go_simp; try with_reducible rfl))
      (refine wpAnyH_take (i := 5) (v := ?_) rfl (by kernel_rfl) (by kernel_rfl) (by kernel_rfl) (fun _ _ _ h => h) (Or.inl ⟨by rfl, ?_⟩) (by exact trivial) ?_; rotate_left; (intro w9 hS9; skip; go_simp; try with_reducible rfl))
      refine wpAnyH_two (i := 1) (j := 6) (by kernel_rfl) rfl rfl (fun K hK => ?_) (fun K hK => ?_)
      · (go_simp; refine hK _ _ trivial ?_; clear hK K)
        refine wpAnyH_one (i := 6) (by kernel_rfl) rfl (fun K hK => ?_)
        (go_simp; refine hK _ _ trivial ?_; clear hK K)
        (refine wpAnyH_take (i := 7) (v := ?_) rfl (by kernel_rfl) (by kernel_rfl) (by kernel_rfl) (fun _ _ _ h => h) (Or.inl ⟨by rfl, ?_⟩) (by exact trivial) ?_; rotate_left; (intro w9 hS9; skip; go_simp; try with_reducible rfl))
        (refine wpAnyH_take (i := 8) (v := ?_) rfl (by kernel_rfl) (by kernel_rfl) (by kernel_rfl) (fun _ _ _ h => h) (Or.inl ⟨by rfl, ?_⟩) (by exact trivial) ?_; rotate_left; (intro w9 hS9; skip; go_simp; try with_reducible rfl))
        (refine wpAnyH_one (i := 9) (by kernel_rfl) rfl (fun K hK => ?_); go_simp; refine hK _ _ (trivial) ?_; clear hK K)
        refine wpAnyH_one (i := 10) (by kernel_rfl) rfl (fun K hK => ?_)
        rw [if_pos (by rfl)]
        refine wp_append_own _ (.tmp 33) (.tmp 41) 74 rfl (w.heap.size + 2) 100 i0 (.agg #[.string ⟨#[]⟩, .int .i64 0]) 2 24 Tryz.underlying74 hi hz0 hz1 hz2 rfl (by decide) (.slice pa k pc) k (((ps.take k).map partN).flatMap prtC) rfl HOA.out ⟨w5.heap.size, 0, none⟩ 1 1 [S kk, .int .i64 s.length] rfl rfl HNC.out (by intro u hu; simp at hu; rcases hu with rfl | rfl <;> rfl) (by unfold maxLen; omega) (by omega) (by simp; have := HB5.out.size; have := HSL.out; omega) ?_
        intro v' w7 hown' hgrow _
        obtain ⟨g', cap', rfl⟩ := ownsRow_succ hown'
        obtain ⟨HBX7, HEND⟩ := HFIN.out w7 g' cap' hown' hgrow
        obtain ⟨⟨z0, z1, z2, z3⟩, ⟨y0, y1, y2, y3⟩, ⟨x0, x1, x2, x3⟩⟩ := box4 HBX7.out
        clear hown' hgrow
        refine hK _ _ trivial ?_
        clear hK K
        (refine wpAnyH_take (i := 11) (v := ?_) rfl (by kernel_rfl) (by kernel_rfl) (by kernel_rfl) (fun _ _ _ h => h) (Or.inl ⟨by rfl, ?_⟩) (by exact trivial) ?_; rotate_left; (intro w9 hS9; skip; go_simp; try with_reducible rfl))
        refine wpAnyH_one (i := 12) (by kernel_rfl) rfl (fun K hK => ?_)
        (go_simp; refine hK _ _ trivial ?_; clear hK K)
        (refine wpAnyH_done (by kernel_rfl) ?_ _)
        go_wp2
        go_roundw
        case rel => exact HEND.out
        case measure => simp [intOf]; omega
      · (go_simp; refine hK _ _ trivial ?_; clear hK K)
        (refine wpAnyH_take (i := 7) (v := ?_) rfl (by kernel_rfl) (by kernel_rfl) (by kernel_rfl) (fun _ _ _ h => h) (Or.inl ⟨by rfl, ?_⟩) (by exact trivial) ?_; rotate_left; (intro w9 hS9; skip; go_simp; try with_reducible rfl))
        (refine wpAnyH_take (i := 8) (v := ?_) rfl (by kernel_rfl) (by kernel_rfl) (by kernel_rfl) (fun _ _ _ h => h) (Or.inl ⟨by rfl, ?_⟩) (by exact trivial) ?_; rotate_left; (intro w9 hS9; skip; go_simp; try with_reducible rfl))
        refine wpAnyH_two (i := 1) (j := 9) (by kernel_rfl) rfl rfl (fun K hK => ?_) (fun K hK => ?_)
        · (go_simp; refine hK _ _ trivial ?_; clear hK K)
          (refine wpAnyH_one (i := 9) (by kernel_rfl) rfl (fun K hK => ?_); go_simp; refine hK _ _ (trivial) ?_; clear hK K)
          refine wpAnyH_one (i := 10) (by kernel_rfl) rfl (fun K hK => ?_)
          rw [if_pos (by rfl)]
          refine wp_append_own _ (.tmp 33) (.tmp 41) 74 rfl (w.heap.size + 2) 100 i0 (.agg #[.string ⟨#[]⟩, .int .i64 0]) 2 24 Tryz.underlying74 hi hz0 hz1 hz2 rfl (by decide) (.slice pa k pc) k (((ps.take k).map partN).flatMap prtC) rfl HOA.out ⟨w5.heap.size, 0, none⟩ 1 1 [S kk, .int .i64 s.length] rfl rfl HNC.out (by intro u hu; simp at hu; rcases hu with rfl | rfl <;> rfl) (by unfold maxLen; omega) (by omega) (by simp; have := HB5.out.size; have := HSL.out; omega) ?_
          intro v' w7 hown' hgrow _
          obtain ⟨g', cap', rfl⟩ := ownsRow_succ hown'
          obtain ⟨HBX7, HEND⟩ := HFIN.out w7 g' cap' hown' hgrow
          obtain ⟨⟨z0, z1, z2, z3⟩, ⟨y0, y1, y2, y3⟩, ⟨x0, x1, x2, x3⟩⟩ := box4 HBX7.out
          clear hown' hgrow
          refine hK _ _ trivial ?_
          clear hK K
          (refine wpAnyH_take (i := 11) (v := ?_) rfl (by kernel_rfl) (by kernel_rfl) (by kernel_rfl) (fun _ _ _ h => h) (Or.inl ⟨by rfl, ?_⟩) (by exact trivial) ?_; rotate_left; (intro w9 hS9; skip; go_simp; try with_reducible rfl))
          refine wpAnyH_one (i := 12) (by kernel_rfl) rfl (fun K hK => ?_)
          (go_simp; refine hK _ _ trivial ?_; clear hK K)
          (refine wpAnyH_done (by kernel_rfl) ?_ _)
          go_wp2
          go_roundw
          case rel => exact HEND.out
          case measure => simp [intOf]; omega
        · (go_simp; refine hK _ _ trivial ?_; clear hK K)
          refine wpAnyH_one (i := 1) (by kernel_rfl) rfl (fun K hK => ?_)
          (go_simp; refine hK _ _ trivial ?_; clear hK K)
          refine wpAnyH_one (i := 10) (by kernel_rfl) rfl (fun K hK => ?_)
          rw [if_pos (by rfl)]
          refine wp_append_own _ (.tmp 33) (.tmp 41) 74 rfl (w.heap.size + 2) 100 i0 (.agg #[.string ⟨#[]⟩, .int .i64 0]) 2 24 Tryz.underlying74 hi hz0 hz1 hz2 rfl (by decide) (.slice pa k pc) k (((ps.take k).map partN).flatMap prtC) rfl HOA.out ⟨w5.heap.size, 0, none⟩ 1 1 [S kk, .int .i64 s.length] rfl rfl HNC.out (by intro u hu; simp at hu; rcases hu with rfl | rfl <;> rfl) (by unfold maxLen; omega) (by omega) (by simp; have := HB5.out.size; have := HSL.out; omega) ?_
          intro v' w7 hown' hgrow _
          obtain ⟨g', cap', rfl⟩ := ownsRow_succ hown'
          obtain ⟨HBX7, HEND⟩ := HFIN.out w7 g' cap' hown' hgrow
          obtain ⟨⟨z0, z1, z2, z3⟩, ⟨y0, y1, y2, y3⟩, ⟨x0, x1, x2, x3⟩⟩ := box4 HBX7.out
          clear hown' hgrow
          refine hK _ _ trivial ?_
          clear hK K
          (refine wpAnyH_take (i := 11) (v := ?_) rfl (by kernel_rfl) (by kernel_rfl) (by kernel_rfl) (fun _ _ _ h => h) (Or.inl ⟨by rfl, ?_⟩) (by exact trivial) ?_; rotate_left; (intro w9 hS9; skip; go_simp; try with_reducible rfl))
          refine wpAnyH_one (i := 12) (by kernel_rfl) rfl (fun K hK => ?_)
          (go_simp; refine hK _ _ trivial ?_; clear hK K)
          (refine wpAnyH_done (by kernel_rfl) ?_ _)
          go_wp2
          go_roundw
          case rel => exact HEND.out
          case measure => simp [intOf]; omega
    · have h1' : ¬ (k : Int) < (ps.length : Int) := by omega
      obtain rfl : k = ps.length := by omega
      have hprow : NodRow wr (fileN ps) (.slice pa ps.length pc) (.slice none 0 0) := by
        have h := HPR.out
        rw [List.take_of_length_le (Nat.le_refl _)] at h
        refine ⟨Row.of_ownsK (f := prtC) (K := 2) (base := w.heap.size + 2) (e := 100) (fun _ => rfl) ?_, Row.nil _ _⟩
        show wr.ownsRow _ _ _ _ (ps.map partN).length _
        rw [List.length_map]; exact h
      have CQ : Calls Tryz.prog 43 #[.slice la' o'.length lc', .agg #[.int .i64 2, .string ⟨#[]⟩, .slice pa ps.length pc, .slice none 0 0]] wr _ := rput12b_walk (.slice la' o'.length lc') (.slice pa ps.length pc) (.slice none 0 0) o' (fileN ps) wr HLW.out hprow (by omega) (by simp [fileN]) (by simp [fileN]; omega) (by simp [fileN]) (by simp [fileN])
      have HE := Lib.hid (show addO o' (keyN (fileN ps), writeN (fileN ps)) = fileO o ps by rw [HO.out, List.take_of_length_le (Nat.le_refl _)]; rfl)
      clear hprow
      go_wp2_with fail
      refine CQ.mono ?_
      rintro e w4 ⟨v4, rfl, hr4, hg4, hb4⟩
      have HR4 := Lib.hid (HLR.out.trans hg4 hb4 HB.out.size)
      have HB4 := Lib.hid (below_chain HB.out hb4 HB.out.size)
      clear hr4 hg4 hb4 CQ
      go_wp2
      go_ret2
      exact ⟨_, rfl, by rw [← HE.out]; exact HR4.out, HB4.out⟩
end Go.Proofs.YtkejdbidomlonaaGreatDoor
