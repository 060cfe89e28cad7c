/- The reference's bytes of all nodes of a directory, and of a tree. Printed by gen/rraw12.py. -/
import Derived.Test.YtkejdbidomlonaaGreatDoorJRBuild12
import Derived.Test.YtkejdbidomlonaaGreatDoorRDir12
namespace Go.Proofs.YtkejdbidomlonaaGreatDoor
open Go.RowKit

/-- Between two rounds of rawDir. -/
def RawI (w : World) (B x y z : Nat) (pc : List UInt8 → List (List UInt8)) (items : List Itm) (n : Nat) (ov : Value) (xs : List (List UInt8)) (d : List UInt8) (v i : Value) (wr : World) : Prop :=
  ∃ (k : Nat) (ea : Option Addr) (ec : Nat), k ≤ items.length ∧ i = .int .i64 k ∧ Hid (RawGot B w.heap.size w wr ov v (xs ++ rawsN (nodesS pc items n (inD (items.take k) d)))) ∧
    wr.heap[w.heap.size]? = some (.cells #[.int .i64 (x : Nat), .int .i64 (y : Nat), .int .i64 (z : Nat)] 23 (0, 0)) ∧ wr.heap[w.heap.size + 1]? = some (.cells #[.int .i64 3, .string ⟨#[]⟩, .slice none 0 0, .slice ea (inD (items.take k) d).length ec] 77 (0, 0)) ∧ Hid (wr.ownsRow (w.heap.size + 2) 80 4 (.slice ea (inD (items.take k) d).length ec) (inD (items.take k) d).length (((inD (items.take k) d).map (entK pc fun p => keyN (dirN pc items n p))).flatMap entC))
/-- Between two rounds over a file's pieces. -/
def RawF (B fb : Nat) (w10 : World) (v : Value) (ys ps : List (List UInt8)) (tv v2 i2 : Value) (wr : World) : Prop :=
  ∃ (q : Nat) (pa : Option Addr) (pcap : Nat), q ≤ ps.length ∧ i2 = .int .i64 q ∧ Hid (RawGot B fb w10 wr v v2 (ys ++ rawsN ((ps.take q).map pieceN))) ∧ wr.heap[fb]? = some (.cells #[.int .i64 2, .string ⟨#[]⟩, .slice pa q pcap, .slice none 0 0] 77 (0, 0)) ∧
    Hid (wr.ownsRow w10.heap.size 100 2 (.slice pa q pcap) q (((ps.take q).map partN).flatMap prtC)) ∧ Hid (∀ j, tv.ownBlock = some j → v2.ownBlock ≠ some j ∧ wr.heap[j]? = w10.heap[j]?)

theorem own_keepR {w w' : World} {B e K n : Nat} {v : Value} {xs : List Value} (h : w.ownsRow B e K v n xs) (hk : ∀ (g : Nat) (cs : Array Value), w.heap[g]? = some (Obj.cells cs e (0, 0)) → w'.heap[g]? = w.heap[g]?) : w'.ownsRow B e K v n xs :=
  ⟨h.1, h.2.imp id fun ⟨g, cap, cur, h1, h2, h3, h4⟩ => ⟨g, cap, cur, h1, h2, (hk g cur h3).trans h3, h4⟩⟩
theorem own_ne {w : World} {B B' e e' K K' n n' : Nat} {v v' : Value} {xs xs' : List Value} (h : w.ownsRow B e K v n xs) (h' : w.ownsRow B' e' K' v' n' xs') (he : e ≠ e') {k : Nat} (hk : v.ownBlock = some k) : v'.ownBlock ≠ some k := by
  intro hk'
  rcases h.2 with ⟨h, _⟩ | ⟨g, cap, cur, h, _, hg, _⟩
  · rw [h] at hk; simp [Value.ownBlock] at hk
  rcases h'.2 with ⟨h', _⟩ | ⟨g', cap', cur', h', _, hg', _⟩
  · rw [h'] at hk'; simp [Value.ownBlock] at hk'
  · rw [h] at hk; rw [h'] at hk'
    simp only [Value.ownBlock, Option.some.injEq] at hk hk'
    subst hk; subst hk'
    rw [hg] at hg'
    injection hg' with hg'
    injection hg' with _ hg'
    exact he hg'
theorem nodesD_last {pc : List UInt8 → List (List UInt8)} {items : List Itm} (n : Nat) (d : List UInt8) : ∃ l, nodesD pc items n d = l ++ [dirN pc items n d] := by
  cases n with
  | zero => exact ⟨[], rfl⟩
  | succ n => exact ⟨_, nodesD_succ pc items n d⟩

/-- Behind a round that has an entry more. -/
theorem raw_round {w w11 w12 : World} {B x y z k n : Nat} {pc : List UInt8 → List (List UInt8)} {items : List Itm} {ov v : Value} {xs zs : List (List UInt8)} {d : List UInt8} {ea : Option Addr} {ec g' cap' : Nat} {it : Itm} {new : List Value} {tmp : Obj}
    (hk : k < items.length) (hin : inD (items.take (k + 1)) d = inD (items.take k) d ++ [it]) (hent : entC (entK pc (fun p => keyN (dirN pc items n p)) it) = new) (hzs : xs ++ rawsN (nodesS pc items n (inD (items.take (k + 1)) d)) = zs) (hg : RawGot B w.heap.size w w11 ov v zs)
    (hpb : w11.heap[w.heap.size]? = some (.cells #[.int .i64 (x : Nat), .int .i64 (y : Nat), .int .i64 (z : Nat)] 23 (0, 0))) (hnb : w11.heap[w.heap.size + 1]? = some (.cells #[.int .i64 3, .string ⟨#[]⟩, .slice none 0 0, .slice ea (inD (items.take k) d).length ec] 77 (0, 0))) (her : w11.ownsRow (w.heap.size + 2) 80 4 (.slice ea (inD (items.take k) d).length ec) (inD (items.take k) d).length (((inD (items.take k) d).map (entK pc fun p => keyN (dirN pc items n p))).flatMap entC))
    (hown' : w12.ownsRow (w.heap.size + 2) 80 4 (.slice (some ⟨g', 0, none⟩) ((inD (items.take k) d).length + 1) cap') ((inD (items.take k) d).length + 1) (((inD (items.take k) d).map (entK pc fun p => keyN (dirN pc items n p))).flatMap entC ++ new))
    (hgrow : (w11.alloc tmp).grownBy w12 (Value.slice ea (inD (items.take k) d).length ec).ownBlock) :
    Hid (w12.heap[w.heap.size + 1]? = some (.cells #[.int .i64 3, .string ⟨#[]⟩, .slice none 0 0, .slice ea (inD (items.take k) d).length ec] 77 (0, 0))) ∧ Hid (RawI w B x y z pc items n ov xs d v (.int .i64 ((k : Int) + 1)) (w12.setCell ⟨w.heap.size + 1, 3, none⟩ (.slice (some ⟨g', 0, none⟩) ((inD (items.take k) d).length + 1) cap'))) := by
  have hne : ∀ j, (Value.slice ea (inD (items.take k) d).length ec).ownBlock = some j → w.heap.size + 2 ≤ j := fun j hj => (her.lt j hj).1
  have hold : ∀ j, j < w11.heap.size → some j ≠ (Value.slice ea (inD (items.take k) d).length ec).ownBlock → w12.heap[j]? = w11.heap[j]? := fun j hj hn => (hgrow.block j (by rw [World.size_alloc]; omega) hn).trans (Below.heap_alloc _ _ _ hj)
  have hnb2 := (hold _ (heap_lt hnb) (fun e => by have := hne _ e.symm; omega)).trans hnb
  have hpb2 := (hold _ (heap_lt hpb) (fun e => by have := hne _ e.symm; omega)).trans hpb
  have hlen : (inD (items.take (k + 1)) d).length = (inD (items.take k) d).length + 1 := by rw [hin]; simp
  refine ⟨Lib.hid hnb2, Lib.hid ⟨k + 1, some ⟨g', 0, none⟩, cap', by omega, by go_num, ?_, ?_, ?_, ?_⟩⟩
  · rw [hzs]
    refine Lib.hid (hg.step (by exact hgrow.os) (by exact hgrow.tape) (by exact hgrow.output) (by rw [World.size_setCell]; exact Nat.le_trans (by simp) hgrow.size) (fun j hj hc => ?_) (Nat.le_refl _))
    have h1 : j ≠ w.heap.size + 1 := by
      rcases hc with hc | hc
      · omega
      · rintro rfl; exact RawGot.other hg.own hnb (by decide) hc
    refine (Below.heap_setCell _ _ _ _ h1).trans (hold j hj fun e => ?_)
    rcases hc with hc | hc
    · have := hne j e.symm; omega
    · exact own_ne hg.own her (by decide) hc e.symm
  · exact (Below.heap_setCell _ _ _ _ (show w.heap.size ≠ w.heap.size + 1 by omega)).trans hpb2
  · rw [hlen]; exact heap_set_cell (o := 3) hnb2 _
  · rw [hin, List.map_append, List.flatMap_append, List.length_append]
    refine Lib.hid (own_cell ?_ (by omega) _ _)
    rw [show [it].length = 1 from rfl, show (List.map (entK pc fun p => keyN (dirN pc items n p)) [it]).flatMap entC = new by simp [hent]]
    exact hown'

set_option maxHeartbeats 16000000 in
set_option maxRecDepth 100000 in
theorem rraw12_walk (x k y z : Nat) (iv : Value) (items : List Itm) (W0 : World) (hf : FitC x k z) (hpk : 2 ^ k = y) (hrd : Ready (piecesC x k z) items) (hir : ItRow W0 iv items) :
    ∀ (n deep : Nat) (ov : Value) (xs : List (List UInt8)) (d : List UInt8) (w : World), Below W0.heap.size W0 w → w.ownsRow W0.heap.size 9 1 ov xs.length (xs.map S) → n + deep = 9 → deepD d = deep → DirOf items d → xs.length + (nodesD (piecesC x k z) items n d).length ≤ 200000 →
    Calls Tryz.prog 27 #[PrmV x y z, iv, ov, S d, .int .i64 deep] w fun e w' => ∃ v', e = .returned v' ∧ RawGot W0.heap.size w.heap.size w w' ov v' (xs ++ rawsN (nodesD (piecesC x k z) items n d)) := by
  intro n
  induction n with
  | zero =>
    intro deep ov xs d w _ _ hn hdp hdir _
    exfalso
    rcases hdir with rfl | ⟨x, hx, rfl⟩
    · simp [deepD] at hdp; omega
    · have := (deep_step (hrd.item hx).1).2; omega
  | succ n ih =>
    intro deep ov xs d w hbw hov hn hdp hdir hcnt
    have IH := ih (deep + 1)
    clear ih
    have CP := fun (data : List UInt8) (W : World) (h : data.length ≤ 1100000) => r07pieces_walk x k y z data W hf hpk h
    obtain ⟨pc, hpc⟩ : ∃ pc, piecesC x k z = pc := ⟨_, rfl⟩
    simp only [hpc] at IH CP hrd hcnt ⊢
    obtain ⟨i0, hi, hz0, hz1, hz2⟩ := info_parts infoEnt
    obtain ⟨is, his, hq0, hq1, hq2⟩ := info_parts infoStr
    obtain ⟨ip, hip, hip0, hip1, hip2⟩ := info_parts infoPrt
    have HBW := Lib.hid hbw
    have HOV := Lib.hid hov
    have HBS := Lib.hid hbw.size
    have HCNT := Lib.hid hcnt
    obtain ⟨ia, ic, rfl, hic, him, hix⟩ := hir
    have HIX := Lib.hid hix
    have hd8 : deep ≤ 8 := by omega
    have hlen := hrd.fit.len
    obtain ⟨w1, hw1, hb1, hp1, hs1⟩ : ∃ w1, w1 = w.alloc (.cells #[.int .i64 (x : Nat), .int .i64 (y : Nat), .int .i64 (z : Nat)] 23) ∧ Below w.heap.size w w1 ∧ w1.heap[w.heap.size]? = some (.cells #[.int .i64 (x : Nat), .int .i64 (y : Nat), .int .i64 (z : Nat)] 23 (0, 0)) ∧ w1.heap.size = w.heap.size + 1 :=
      ⟨_, rfl, (Below.refl _ _).alloc (Nat.le_refl _) _, heap_alloc_new _ _, by simp⟩
    obtain ⟨w2, hw2, hb2, hn2, hs2⟩ : ∃ w2, w2 = w1.alloc (.cells #[.int .i64 3, .string ⟨#[]⟩, .slice none 0 0, .slice none 0 0] 77) ∧ Below w1.heap.size w1 w2 ∧ w2.heap[w.heap.size + 1]? = some (.cells #[.int .i64 3, .string ⟨#[]⟩, .slice none 0 0, .slice none 0 0] 77 (0, 0)) ∧ w2.heap.size = w.heap.size + 2 :=
      ⟨_, rfl, (Below.refl _ _).alloc (Nat.le_refl _) _, by rw [← hs1]; exact heap_alloc_new _ _, by rw [World.size_alloc, hs1]⟩
    have HP2 := Lib.hid ((hb2.block _ (heap_lt hp1)).trans hp1)
    have HB2 := Lib.hid (below_chain hb1 hb2 hb1.size)
    have HN2 := Lib.hid hn2
    have HRD := Lib.hid hrd
    have HND := Lib.hid (show n + 1 + deepD d = 9 by omega)
    have HDP := Lib.hid hdp
    have HG2 := Lib.hid (show RawGot W0.heap.size w.heap.size w w2 ov ov (xs ++ rawsN (nodesS pc items n (inD (items.take 0) d))) by
      rw [show xs ++ rawsN (nodesS pc items n (inD (items.take 0) d)) = xs by simp [inD, nodesS, rawsN]]
      exact (RawGot.start HOV.out).below HB2.out (Nat.le_refl _))
    have hcnt2 : xs.length ≤ 200000 := by omega
    clear hn2 hp1 hix hf hpk hpc hrd hdir hn hdp hb1 hbw hov hcnt
    go_enter Tryz.func27, Tryz.ntmps27
    go_upto_region 1 with fail
    rw [← hw1]
    clear hw1
    go_upto_region 2 with fail
    rw [← hw2]
    clear hw2 hs1 hb2
    go_wp2
    go_loopw [2, 12] (fun v i wr => RawI w W0.heap.size x y z pc items n ov xs d v i wr) (fun _ i _ => items.length - (intOf i).toNat)
    case atStart => exact ⟨0, none, 0, Nat.zero_le _, rfl, HG2, HP2.out, HN2.out, Lib.hid (World.ownsRow_nil _ _ _ _)⟩
    case round =>
      obtain ⟨v, rfl⟩ : ∃ v, v = u2 := ⟨_, rfl⟩
      obtain ⟨k, ea, ec, hk, rfl, HG, hpb, hnb, HER⟩ := hrel
      have HSZ := Lib.hid (heap_lt hnb)
      have HW := Lib.hid (show Below W0.heap.size W0 wr from HG.out.base rfl HBW.out HBS.out (fun j hj => (HOV.out.lt j hj).1))
      have hel := inD_len items d k
      have hyl : (xs ++ rawsN (nodesS pc items n (inD (items.take k) d))).length + 1 ≤ 200000 := by
        have h1 := nodesS_take (pc := pc) (items := items) (n := n) (d := d) k
        have h2 := HCNT.out
        rw [List.length_append, rawsN_len]; omega
      obtain ⟨ys, hys⟩ : ∃ ys, xs ++ rawsN (nodesS pc items n (inD (items.take k) d)) = ys := ⟨_, rfl⟩
      have HYS := Lib.hid hys
      rw [hys] at hyl HG
      clear hys HP2 HN2 HB2 HG2
      by_cases h1 : k < items.length
      · have h1' : (k : Int) < (items.length : Int) := by omega
        have hix := HIX.out
        rcases hix with hix | ⟨ib, io, rfl, hix⟩
        · exfalso; rw [hix] at h1; simp at h1
        obtain ⟨m0, m1, m2, m3⟩ := it_cells hix h1
        have e0 := cell_below HW.out m0
        have e1 := cell_below HW.out m1
        have e2 := cell_below HW.out m2
        have e3 := cell_below HW.out m3
        have HST := Lib.hid (inD_step (d := d) h1)
        have hmem : items[k] ∈ items := List.getElem_mem h1
        obtain ⟨hfit, hodd, hdl, -⟩ := HRD.out.item hmem
        have HFEW := Lib.hid (HRD.out.few _ hmem)
        have HMEM := Lib.hid hmem
        have HFIT := Lib.hid hfit
        clear hix m0 m1 m2 m3 hmem hfit hodd
        generalize items[k] = it at *
        obtain ⟨p, isd, ex, data⟩ := it
        simp only at e0 e1 e2 e3 hdl
        have hpl : p.length ≤ 1100000 := by
          obtain ⟨q1, q2, q3⟩ := fit_parts (show fitB p = true from HFIT.out)
          have := joinS_len (partsL p) (List.all_eq_true.2 q2)
          rw [joinS_parts] at this
          omega
        obtain ⟨w3, hw3, hb3, hx3⟩ : ∃ w3, w3 = wr.alloc (.cells #[S p, .bool isd, .bool ex, S data] 50) ∧ Below wr.heap.size wr w3 ∧ w3.heap[wr.heap.size]? = some (.cells #[S p, .bool isd, .bool ex, S data] 50 (0, 0)) :=
          ⟨_, rfl, (Below.refl _ _).alloc (Nat.le_refl _) _, heap_alloc_new _ _⟩
        have CD := rdir_walk p w3 hpl
        have CS := fun W => rsplit_walk p W hpl
        obtain ⟨⟨b0, b1, b2, b3⟩, -, -⟩ := box4 hx3
        go_upto_region 6 with fail
        rw [← hw3]
        clear hw3
        go_wp2_with fail
        refine CD.mono ?_
        rintro e w4 ⟨rfl, hb4⟩
        have HB4 := Lib.hid (hb3.trans (hb4.mono hb3.size))
        by_cases hdd : dirL p = d
        case neg =>
          have hne : (dirL p == d) = false := by rw [beq_eq_false_iff_ne]; exact hdd
          have HIN := Lib.hid (show inD (items.take (k + 1)) d = inD (items.take k) d from HST.out.trans (if_neg hdd))
          generalize dirL p = dp at *
          clear hdd b0 b1 b2 b3 CD CS e0 e1 e2 e3
          go_wp2
          go_roundw
          case rel => exact ⟨k + 1, ea, ec, by omega, by go_num, Lib.hid (by rw [HIN.out, HYS.out]; exact HG.out.below HB4.out (Nat.le_refl _)), (HB4.out.block _ (heap_lt hpb)).trans hpb, by rw [HIN.out]; exact (HB4.out.block _ (heap_lt hnb)).trans hnb, by rw [HIN.out]; exact Lib.hid (own_on HER.out HB4.out)⟩
          case measure => simp [intOf]; omega
        have hne : (dirL p == d) = true := by rw [beq_iff_eq]; exact hdd
        have HIN := Lib.hid (show inD (items.take (k + 1)) d = inD (items.take k) d ++ [(p, isd, ex, data)] from HST.out.trans (if_pos hdd))
        have HDK := Lib.hid (show deepD p = deep + 1 by have := (deep_step (show fitB p = true from HFIT.out)).1; rw [hdd, HDP.out] at this; exact this)
        generalize dirL p = dp at *
        clear hdd
        have CS4 := CS w4
        have hx4 := (hb4.block _ (heap_lt hx3)).trans hx3
        obtain ⟨⟨c0, c1, c2, c3⟩, -, -⟩ := box4 hx4
        clear CD CS b0 b1 b2 b3 hx3 hb3 hb4
        go_wp2_with fail
        refine CS4.mono ?_
        rintro e w5 ⟨nv, rfl, hnr, hb5⟩
        have hsp : splitL p = partsL p := splitL_fit HFIT.out
        obtain ⟨m, hm⟩ : ∃ m, (splitL p).length = m + 1 := ⟨(splitL p).length - 1, by have := splitL_pos HFIT.out; omega⟩
        have hln : (splitL p)[m]? = some (lastN p) := by
          unfold lastN
          rw [hsp] at hm ⊢
          rw [List.getLastD_eq_getLast?, List.getLast?_eq_getElem?, hm, show m + 1 - 1 = m from rfl]
          rw [List.getElem?_eq_getElem (by omega)]; rfl
        obtain ⟨na, nc, rfl, -, -, hnx⟩ := hnr
        rw [hm]
        rcases hnx with hnx | ⟨g, no, rfl, hnx⟩
        · exfalso; rw [hnx] at hm; simp at hm
        have n0 := hnx m _ hln
        have hm8 : m ≤ 7 := by have := splitL_le p; omega
        have hmw : IntKind.i64.wrap (m : Int) = (m : Int) := by rw [IntKind.wrap_i64]; omega
        have hm2 : (m : Int) + 1 - 1 = (m : Int) := by omega
        have hm3 : (m : Int) < (m : Int) + 1 := by omega
        obtain ⟨ln, hlne⟩ : ∃ ln, lastN p = ln := ⟨_, rfl⟩
        have HLN := Lib.hid hlne
        rw [hlne] at n0
        clear hnx hln hm hsp hlne
        obtain ⟨w6, hw6, hx6, n6, HB6⟩ : ∃ w6 : World, w6 = { w5 with drawn := w5.drawn + 1 } ∧ w6.heap[wr.heap.size]? = some (.cells #[S p, .bool isd, .bool ex, S data] 50 (0, 0)) ∧ w6.cell? ⟨g, no + m, none⟩ = some (S ln) ∧ Hid (Below wr.heap.size wr w6) :=
          ⟨_, rfl, (hb5.block _ (heap_lt hx4)).trans hx4, n0, Lib.hid (HB4.out.trans ((hb5.trans (⟨rfl, rfl, rfl, Nat.le_refl _, fun _ _ => rfl⟩ : Below w4.heap.size w5 { w5 with drawn := w5.drawn + 1 })).mono HB4.out.size))⟩
        clear CS4 c0 c1 c2 c3 hx4 hb5 n0
        go_upto_region 8 with fail
        (refine wp_region_held (S := fun w' => w'.cell? ⟨g, no + m, none⟩ = some (S ln) ∧ w'.cell? ⟨wr.heap.size, 2, none⟩ = some (.bool ex)) (by kernel_rfl) ?_)
        rw [← hw6]
        clear hw6
        obtain ⟨⟨c0, c1, c2, c3⟩, -, -⟩ := box4 hx6
        (refine wpAnyH_take (i := 0) (v := ?_) rfl (by kernel_rfl) (by kernel_rfl) (by kernel_rfl) (fun _ _ _ h => h) (Or.inl ⟨by rfl, ?_⟩) (by exact ⟨n6, c2⟩) ?_; rotate_left; (intro w9 hS9; skip; go_simp; try with_reducible rfl))
        (refine wpAnyH_take (i := 1) (v := ?_) rfl (by kernel_rfl) (by kernel_rfl) (by kernel_rfl) (fun _ _ _ h => h) (Or.inl ⟨by rfl, ?_⟩) (by exact ⟨n6, c2⟩) ?_; rotate_left; (intro w9 hS9; skip; go_simp; try with_reducible rfl))
        (refine wpAnyH_take (i := 2) (v := ?_) rfl (by kernel_rfl) (by kernel_rfl) (by kernel_rfl) (fun _ _ _ h => h) (Or.inl ⟨by rfl, ?_⟩) (by exact ⟨n6, c2⟩) ?_; rotate_left; (intro w9 hS9; skip; go_simp; try with_reducible rfl))
        (refine wpAnyH_take (i := 3) (v := ?_) rfl (by kernel_rfl) (by kernel_rfl) (by kernel_rfl) (fun _ _ _ h => h) (Or.inl ⟨by rfl, ?_⟩) (by exact ⟨n6, c2⟩) ?_; rotate_left; (intro w9 hS9; skip; go_simp; try with_reducible rfl))
        (refine wpAnyH_take (i := 4) (v := ?_) rfl (by kernel_rfl) (by kernel_rfl) (by kernel_rfl) (fun _ _ _ h => h) (Or.inl ⟨by rfl, ?_⟩) (by exact ⟨n6, c2⟩) ?_; rotate_left; (intro w9 hS9; skip; go_simp; try with_reducible rfl))
        (refine wpAnyH_take (i := 5) (v := ?_) rfl (by kernel_rfl) (by kernel_rfl) (by kernel_rfl) (fun _ _ _ h => h) (Or.inl ⟨by rfl, ?_⟩) (by exact ⟨n6, c2⟩) ?_; rotate_left; (intro w9 hS9; (replace hS9 : w9.cell? ⟨g, no + m, none⟩ = some (S ln) := hS9.1); go_simp; try with_reducible rfl))
        (refine wpAnyH_take (i := 6) (v := ?_) rfl (by kernel_rfl) (by kernel_rfl) (by kernel_rfl) (fun _ _ _ h => h) (Or.inl ⟨by rfl, ?_⟩) (by exact ⟨n6, c2⟩) ?_; rotate_left; (intro w9 hS9; skip; go_simp; try with_reducible rfl))
        (refine wpAnyH_take (i := 7) (v := ?_) rfl (by kernel_rfl) (by kernel_rfl) (by kernel_rfl) (fun _ _ _ h => h) (Or.inl ⟨by rfl, ?_⟩) (by exact ⟨n6, c2⟩) ?_; rotate_left; (intro w9 hS9; (replace hS9 : w9.cell? ⟨wr.heap.size, 2, none⟩ = some (.bool ex) := hS9.2); go_simp; try with_reducible rfl))
        (refine wpAnyH_take (i := 8) (v := ?_) rfl (by kernel_rfl) (by kernel_rfl) (by kernel_rfl) (fun _ _ _ h => h) (Or.inl ⟨by rfl, ?_⟩) (by exact ⟨n6, c2⟩) ?_; rotate_left; (intro w9 hS9; skip; go_simp; try with_reducible rfl))
        obtain ⟨w7, hw7, hs7, he7, n7, hx7, HB7⟩ : ∃ w7, w7 = w6.alloc (.cells #[.string ⟨#[]⟩, .int .i64 0, .bool false, .string ⟨#[]⟩] 80) ∧ w7.heap.size = w6.heap.size + 1 ∧ w7.heap[w6.heap.size]? = some (.cells #[.string ⟨#[]⟩, .int .i64 0, .bool false, .string ⟨#[]⟩] 80 (0, 0)) ∧ w7.cell? ⟨g, no + m, none⟩ = some (S ln) ∧ w7.heap[wr.heap.size]? = some (.cells #[S p, .bool isd, .bool ex, S data] 50 (0, 0)) ∧ Hid (Below wr.heap.size wr w7) :=
          ⟨_, rfl, by simp, heap_alloc_new _ _, cell_old n6 _, (Below.heap_alloc _ _ _ (heap_lt hx6)).trans hx6, Lib.hid (HB6.out.alloc HB6.out.size _)⟩
        have HS6 := Lib.hid (show wr.heap.size < w6.heap.size from heap_lt hx6)
        have HS6g := Lib.hid (show g < w6.heap.size from lt_of_cell n6)
        obtain ⟨e, hee⟩ : ∃ e, w6.heap.size = e := ⟨_, rfl⟩
        obtain ⟨⟨d0, d1, d2, d3⟩, -, -⟩ := box4 hx7
        (refine wpAnyH_one (i := 9) (by kernel_rfl) rfl (fun K hK => ?_); go_simp; refine hK _ _ (⟨by rw [← hw7]; exact n7, by rw [← hw7]; exact d2⟩) ?_; clear hK K)
        rw [← hw7]
        rw [hee] at he7 hs7 HS6 HS6g
        clear hw7 c0 c1 c2 c3 n6 hx6 hee
        obtain ⟨⟨t0, t1, t2, t3⟩, ⟨f0, f1, f2, f3⟩, ⟨r0, r1, r2, r3⟩⟩ := box4 he7
        obtain ⟨w8, hw8, he8, n8, hx8, HB8⟩ : ∃ w8, w8 = (((w7.setCell ⟨e, 0, none⟩ (S ln)).setCell ⟨e, 1, none⟩ (.int .i64 2)).setCell ⟨e, 2, none⟩ (.bool ex)).setCell ⟨e, 3, none⟩ (.string ⟨#[]⟩) ∧ w8.heap[e]? = some (.cells #[S ln, .int .i64 2, .bool ex, .string ⟨#[]⟩] 80 (0, 0)) ∧ w8.cell? ⟨g, no + m, none⟩ = some (S ln) ∧ w8.heap[wr.heap.size]? = some (.cells #[S p, .bool isd, .bool ex, S data] 50 (0, 0)) ∧ Hid (Below wr.heap.size wr w8) := by
          have hg := HS6g.out
          have hw := HS6.out
          have hk4 : ∀ (b : Nat), b ≠ e → ((((w7.setCell ⟨e, 0, none⟩ (S ln)).setCell ⟨e, 1, none⟩ (.int .i64 2)).setCell ⟨e, 2, none⟩ (.bool ex)).setCell ⟨e, 3, none⟩ (.string ⟨#[]⟩)).heap[b]? = w7.heap[b]? := fun b hb =>
            (Below.heap_setCell _ _ _ _ hb).trans ((Below.heap_setCell _ _ _ _ hb).trans ((Below.heap_setCell _ _ _ _ hb).trans (Below.heap_setCell _ _ _ _ hb)))
          exact ⟨_, rfl, heap_set_cell (o := 3) (heap_set_cell (o := 2) (heap_set_cell (o := 1) (heap_set_cell (o := 0) he7 _) _) _) _, (World.cell?_of_block (a := ⟨g, no + m, none⟩) (hk4 g (by omega))).trans n7, (hk4 _ (by omega)).trans hx7,
            Lib.hid (below_setT (below_setT (below_setT (below_setT HB7.out (by omega) _ _) (by omega) _ _) (by omega) _ _) (by omega) _ _)⟩
        have HN8 := Lib.hid n8
        have HE8 := Lib.hid he8
        obtain ⟨⟨d0, d1, d2, d3⟩, -, -⟩ := box4 hx8
        (refine wpAnyH_one (i := 10) (by kernel_rfl) rfl (fun K hK => ?_); go_simp; refine hK _ _ ((by rw [← hw8]; exact ⟨HN8.out, d2⟩)) ?_; clear hK K)
        rw [← hw8]
        clear hw8 hx7 n7 n8 t0 t1 t2 t3 f0 f1 f2 f3 r0 r1 r2 r3 he7
        (refine wpAnyH_done (by kernel_rfl) ?_ _)
        have HG8 := Lib.hid (HG.out.below HB8.out (Nat.le_refl _))
        have HX8 := Lib.hid hx8
        have pb8 := (HB8.out.block _ (heap_lt hpb)).trans hpb
        have nb8 := (HB8.out.block _ (heap_lt hnb)).trans hnb
        have HER8 := Lib.hid (own_on HER.out HB8.out)
        have HEW := Lib.hid (show w.heap.size + 2 ≤ e by have := HS6.out; have := HSZ.out; omega)
        have HEF := Lib.hid (show (Value.slice ea (inD (items.take k) d).length ec).ownBlock ≠ some e from fun hj => by
          have h1 := (HER.out.lt e hj).2
          have h2 := HS6.out
          omega)
        have HEL := Lib.hid (heap_lt he8)
        have HW8 := Lib.hid (below_chain HW.out HB8.out HW.out.size)
        clear hpb hnb HER HG
        obtain ⟨p0, p1, p2⟩ : w8.cell? ⟨w.heap.size, 0, none⟩ = some (.int .i64 (x : Nat)) ∧ w8.cell? ⟨w.heap.size, 1, none⟩ = some (.int .i64 (y : Nat)) ∧ w8.cell? ⟨w.heap.size, 2, none⟩ = some (.int .i64 (z : Nat)) := ⟨heap_cell pb8 (j := 0) rfl, heap_cell pb8 (j := 1) rfl, heap_cell pb8 (j := 2) rfl⟩
        cases isd with
        | true =>
          have HNS := Lib.hid (show xs ++ rawsN (nodesS pc items n (inD (items.take (k + 1)) d)) = ys ++ rawsN (nodesD pc items n p) by rw [HIN.out, nodesS_snoc, if_pos rfl, rawsN_app, ← List.append_assoc, HYS.out])
          have hbnd : ys.length + (nodesD pc items n p).length ≤ 200000 := by
            have h1 := nodesS_take (pc := pc) (items := items) (n := n) (d := d) (k + 1)
            have h2 := HCNT.out
            have h3 := congrArg List.length HNS.out
            rw [List.length_append, List.length_append, rawsN_len, rawsN_len] at h3
            omega
          have HENT := Lib.hid (show entC (entK pc (fun p => keyN (dirN pc items n p)) (p, true, ex, data)) = [S (lastN p), .int .i64 3, .bool ex, S (keyN (dirN pc items n p))] from entK_dir)
          rw [HLN.out] at HENT
          obtain ⟨⟨t0, t1, t2, t3⟩, ⟨f0, f1, f2, f3⟩, ⟨r0, r1, r2, r3⟩⟩ := box4 he8
          obtain ⟨w9, hw9, he9, hx9, HG9, HW9, pb9, nb9, HER9⟩ : ∃ w9, w9 = w8.setCell ⟨e, 1, none⟩ (.int .i64 3) ∧ w9.heap[e]? = some (.cells #[S ln, .int .i64 3, .bool ex, .string ⟨#[]⟩] 80 (0, 0)) ∧ w9.heap[wr.heap.size]? = some (.cells #[S p, .bool true, .bool ex, S data] 50 (0, 0)) ∧ Hid (RawGot W0.heap.size w.heap.size w w9 ov v ys) ∧ Hid (Below W0.heap.size W0 w9) ∧ w9.heap[w.heap.size]? = some (.cells #[.int .i64 (x : Nat), .int .i64 (y : Nat), .int .i64 (z : Nat)] 23 (0, 0)) ∧ w9.heap[w.heap.size + 1]? = some (.cells #[.int .i64 3, .string ⟨#[]⟩, .slice none 0 0, .slice ea (inD (items.take k) d).length ec] 77 (0, 0)) ∧ Hid (w9.ownsRow (w.heap.size + 2) 80 4 (.slice ea (inD (items.take k) d).length ec) (inD (items.take k) d).length (((inD (items.take k) d).map (entK pc fun p => keyN (dirN pc items n p))).flatMap entC)) := by
            have h6 := HS6.out
            have hew := HEW.out
            have hbs := HBS.out
            have hk : ∀ b, b ≠ e → (w8.setCell ⟨e, 1, none⟩ (.int .i64 3)).heap[b]? = w8.heap[b]? := fun b hb => Below.heap_setCell _ _ _ _ hb
            exact ⟨_, rfl, heap_set_cell (o := 1) he8 _, (hk _ (by omega)).trans hx8, Lib.hid (HG8.out.set (by omega) (RawGot.other HG8.out.own he8 (by decide)) (Nat.le_refl _)), Lib.hid (below_setT HW8.out (by omega) _ _), (hk _ (by omega)).trans pb8, (hk _ (by omega)).trans nb8, Lib.hid (own_block2 HER8.out fun j hj => hk j (by rintro rfl; exact HEF.out hj))⟩
          have CI := IH v ys p w9 HW9.out HG9.out.own (by have := HND.out; have := HDP.out; omega) HDK.out (.inr ⟨_, HMEM.out, rfl⟩) hbnd
          rw [show ((deep + 1 : Nat) : Int) = (deep : Int) + 1 by omega] at CI
          go_upto_region 11 with fail
          rw [← hw9]
          clear hw9 d0 d1 d2 d3 t0 t1 t2 t3 f0 f1 f2 f3 r0 r1 r2 r3 p0 p1 p2
          obtain ⟨⟨d0, d1, d2, d3⟩, -, -⟩ := box4 hx9
          obtain ⟨p0, p1, p2⟩ : w9.cell? ⟨w.heap.size, 0, none⟩ = some (.int .i64 (x : Nat)) ∧ w9.cell? ⟨w.heap.size, 1, none⟩ = some (.int .i64 (y : Nat)) ∧ w9.cell? ⟨w.heap.size, 2, none⟩ = some (.int .i64 (z : Nat)) := ⟨heap_cell pb9 (j := 0) rfl, heap_cell pb9 (j := 1) rfl, heap_cell pb9 (j := 2) rfl⟩
          go_wp2_with fail
          refine CI.mono ?_
          rintro e9 w10 ⟨v10, rfl, hg10⟩
          clear d0 d1 d2 d3 p0 p1 p2 CI
          have HKP := Lib.hid (fun (b : Nat) (cs : Array Value) (t : Nat) (hb : w9.heap[b]? = some (.cells cs t (0, 0))) (ht : 9 ≠ t) => (show w10.heap[b]? = w9.heap[b]? from hg10.block b (heap_lt hb) (heap_lt hb) (fun e => RawGot.other HG9.out.own hb ht e.symm)))
          have pb10 := (HKP.out _ _ _ pb9 (by decide)).trans pb9
          have nb10 := (HKP.out _ _ _ nb9 (by decide)).trans nb9
          have he10 := (HKP.out _ _ _ he9 (by decide)).trans he9
          have HER10 := Lib.hid (own_keepR HER9.out fun g cs hg => HKP.out g cs _ hg (by decide))
          have HG10 := Lib.hid (HG9.out.trans hg10 HG9.out.size (Nat.le_refl _))
          obtain ⟨nl, hnl⟩ := nodesD_last (pc := pc) (items := items) n p
          have HZS := Lib.hid (show ys ++ rawsN (nodesD pc items n p) = (ys ++ rawsN nl) ++ [writeN (dirN pc items n p)] by rw [hnl, rawsN_app, ← List.append_assoc]; rfl)
          have hzl : (ys ++ rawsN nl).length ≤ 200000 := by
            have := congrArg List.length hnl
            rw [List.length_append, List.length_singleton] at this
            rw [List.length_append, rawsN_len]; omega
          rw [HZS.out] at HG10 HNS
          generalize ys ++ rawsN nl = zs at *
          have HKEY := Lib.hid (show shaF (writeN (dirN pc items n p)) = keyN (dirN pc items n p) from (keyN_eq (HRD.out.dir n p)).symm)
          have HRL := Lib.hid (writeN_len (n := dirN pc items n p))
          generalize writeN (dirN pc items n p) = raw at *
          generalize keyN (dirN pc items n p) = kk at *
          clear hg10 hnl HKP HZS hbnd nb9 pb9 he9 hx9 HER9 HG9
          obtain ⟨g9, cap9, rfl⟩ : ∃ g9 cap9, v10 = .slice (some ⟨g9, 0, none⟩) (zs.length + 1) cap9 := by
            have h := HG10.out.own
            rw [List.length_append, List.length_singleton] at h
            exact ownsRow_succ h
          have rl : w10.cell? ⟨g9, zs.length, none⟩ = some (S raw) := by
            have h := HG10.out.own
            rw [List.length_append, List.length_singleton] at h
            exact texts_cell h (by simp)
          obtain ⟨mz, hm⟩ : ∃ mz, zs.length = mz := ⟨_, rfl⟩
          rw [hm] at HG10 rl hzl ⊢
          have hmw2 : IntKind.i64.wrap (mz : Int) = (mz : Int) := by rw [IntKind.wrap_i64]; omega
          have hm4 : (mz : Int) + 1 - 1 = (mz : Int) := by omega
          have hm5 : (mz : Int) < (mz : Int) + 1 := by omega
          have CS2 := rsha_walk raw w10 (by have := HRL.out; omega)
          rw [HKEY.out] at CS2
          clear hm
          go_wp2_with fail
          refine CS2.mono ?_
          rintro e8 w14 ⟨rfl, hb14⟩
          clear CS2 rl hmw2 hm4 hm5
          have he14 := (hb14.block _ (heap_lt he10)).trans he10
          obtain ⟨w11, hw11, he11, pb11, nb11, HER11, HG11⟩ : ∃ w11, w11 = w14.setCell ⟨e, 3, none⟩ (S kk) ∧ w11.heap[e]? = some (.cells #[S ln, .int .i64 3, .bool ex, S kk] 80 (0, 0)) ∧ w11.heap[w.heap.size]? = some (.cells #[.int .i64 (x : Nat), .int .i64 (y : Nat), .int .i64 (z : Nat)] 23 (0, 0)) ∧ w11.heap[w.heap.size + 1]? = some (.cells #[.int .i64 3, .string ⟨#[]⟩, .slice none 0 0, .slice ea (inD (items.take k) d).length ec] 77 (0, 0)) ∧ Hid (w11.ownsRow (w.heap.size + 2) 80 4 (.slice ea (inD (items.take k) d).length ec) (inD (items.take k) d).length (((inD (items.take k) d).map (entK pc fun p => keyN (dirN pc items n p))).flatMap entC)) ∧ Hid (RawGot W0.heap.size w.heap.size w w11 ov (.slice (some ⟨g9, 0, none⟩) (mz + 1) cap9) (zs ++ [raw])) := by
            have h6 := HS6.out
            have hew := HEW.out
            have hk : ∀ b, b ≠ e → (w14.setCell ⟨e, 3, none⟩ (S kk)).heap[b]? = w14.heap[b]? := fun b hb => Below.heap_setCell _ _ _ _ hb
            have hg14 := HG10.out.below hb14 (Nat.le_refl _)
            refine ⟨_, rfl, heap_set_cell (o := 3) he14 _, (hk _ (by omega)).trans ((hb14.block _ (heap_lt pb10)).trans pb10), (hk _ (by omega)).trans ((hb14.block _ (heap_lt nb10)).trans nb10), Lib.hid (own_block2 (own_on HER10.out hb14) fun j hj => hk j (by rintro rfl; exact HEF.out hj)), Lib.hid (hg14.set (by omega) (RawGot.other hg14.own he14 (by decide)) (Nat.le_refl _))⟩
          clear hb14 HG10
          obtain ⟨⟨t0, t1, t2, t3⟩, ⟨f0, f1, f2, f3⟩, ⟨r0, r1, r2, r3⟩⟩ := box4 he14
          have hcnt4 : (inD (items.take k) d).length ≤ 60 := by omega
          go_upto_region 22 with fail
          rw [← hw11]
          clear hw11 t0 t1 t2 t3 f0 f1 f2 f3 r0 r1 r2 r3 he14
          obtain ⟨⟨z0, z1, z2, z3⟩, ⟨y0, y1, y2, y3⟩, ⟨x0, x1, x2, x3⟩⟩ := box4 nb11
          obtain ⟨⟨q0, q1, q2, q3⟩, -, -⟩ := box4 he11
          go_wp2_with (at_builtin; refine wpList_append_own _ rfl _ _ 75 rfl (w.heap.size + 2) 80 i0 (.agg #[.string ⟨#[]⟩, .int .i64 0, .bool false, .string ⟨#[]⟩]) 4 48 Tryz.underlying75 hi hz0 hz1 hz2 rfl (by decide) _ _ _ rfl (HER11.out.alloc _) ⟨w11.heap.size, 0, none⟩ 1 1 [S ln, .int .i64 3, .bool ex, S kk] rfl rfl ?c1 ?c2 ?c3 ?c4 ?c5 ?_)
          case c1 => exact new_cells4 _ _ _ _ _ _
          case c2 => intro u hu; simp at hu; rcases hu with rfl | rfl | rfl | rfl <;> rfl
          case c3 => unfold maxLen; omega
          case c4 => omega
          case c5 => simp; have := heap_lt nb11; omega
          intro v' w12 hown' hgrow _
          obtain ⟨g', cap', rfl⟩ := ownsRow_succ hown'
          obtain ⟨HNB, HEND⟩ := raw_round (B := W0.heap.size) (x := x) (y := y) (z := z) (it := (p, true, ex, data)) (pc := pc) (n := n) h1 HIN.out HENT.out HNS.out HG11.out pb11 nb11 HER11.out hown' hgrow
          clear hown' hgrow z0 z1 z2 z3 y0 y1 y2 y3 x0 x1 x2 x3 nb11 pb11
          obtain ⟨⟨z0, z1, z2, z3⟩, ⟨y0, y1, y2, y3⟩, ⟨x0, x1, x2, x3⟩⟩ := box4 HNB.out
          go_wp2
          go_roundw
          case rel => exact HEND.out
          case measure => simp [intOf]; omega
        | false =>
          have HNS := Lib.hid (show xs ++ rawsN (nodesS pc items n (inD (items.take (k + 1)) d)) = (ys ++ rawsN ((pc data).map pieceN)) ++ [writeN (fileN (pc data))] by
            rw [HIN.out, nodesS_snoc, if_neg (by simp), rawsN_app, ← List.append_assoc, HYS.out]
            show ys ++ rawsN (nodesF (pc data)) = _
            unfold nodesF
            rw [rawsN_app, ← List.append_assoc]; rfl)
          have HENT := Lib.hid (show entC (entK pc (fun p => keyN (dirN pc items n p)) (p, false, ex, data)) = [S (lastN p), .int .i64 2, .bool ex, S (keyN (fileN (pc data)))] from entK_file)
          rw [HLN.out] at HENT
          have HFIT2 := Lib.hid (show FitN (fileN (pc data)) from HRD.out.file HMEM.out)
          have HEACH := Lib.hid (show ∀ t ∈ pc data, 1 ≤ t.length ∧ t.length ≤ 4096 from HRD.out.each _ HMEM.out)
          obtain ⟨w9, hw9, he9, hx9, hf9, HB9⟩ : ∃ w9, w9 = w8.alloc (.cells #[.int .i64 2, .string ⟨#[]⟩, .slice none 0 0, .slice none 0 0] 77) ∧ w9.heap[e]? = some (.cells #[S ln, .int .i64 2, .bool ex, .string ⟨#[]⟩] 80 (0, 0)) ∧ w9.heap[wr.heap.size]? = some (.cells #[S p, .bool false, .bool ex, S data] 50 (0, 0)) ∧ w9.heap[w8.heap.size]? = some (.cells #[.int .i64 2, .string ⟨#[]⟩, .slice none 0 0, .slice none 0 0] 77 (0, 0)) ∧ Hid (Below w8.heap.size w8 w9) :=
            ⟨_, rfl, (Below.heap_alloc _ _ _ (heap_lt he8)).trans he8, (Below.heap_alloc _ _ _ (heap_lt hx8)).trans hx8, heap_alloc_new _ _, Lib.hid ((Below.refl _ _).alloc (Nat.le_refl _) _)⟩
          have CP9 := CP data w9 (by omega)
          go_upto_region 13 with fail
          rw [← hw9]
          clear hw9 d0 d1 d2 d3 p0 p1 p2 CP
          have pb9 := (HB9.out.block _ (heap_lt pb8)).trans pb8
          obtain ⟨⟨d0, d1, d2, d3⟩, -, -⟩ := box4 hx9
          obtain ⟨p0, p1, p2⟩ : w9.cell? ⟨w.heap.size, 0, none⟩ = some (.int .i64 (x : Nat)) ∧ w9.cell? ⟨w.heap.size, 1, none⟩ = some (.int .i64 (y : Nat)) ∧ w9.cell? ⟨w.heap.size, 2, none⟩ = some (.int .i64 (z : Nat)) := ⟨heap_cell pb9 (j := 0) rfl, heap_cell pb9 (j := 1) rfl, heap_cell pb9 (j := 2) rfl⟩
          have hpsl := HFEW.out
          try simp only at hpsl
          generalize pc data = ps at *
          go_wp2_with fail
          refine CP9.mono ?_
          rintro e9 w10 ⟨tv, rfl, htr, hb10⟩
          have HB10 := Lib.hid (show Below w8.heap.size w8 w10 from below_chain HB9.out hb10 HB9.out.size)
          have HTR := Lib.hid htr
          have HFB := Lib.hid (show w8.heap.size < w9.heap.size from heap_lt hf9)
          have hfb := (hb10.block _ (heap_lt hf9)).trans hf9
          have he10 := (hb10.block _ (heap_lt he9)).trans he9
          have pb10 := (hb10.block _ (heap_lt pb9)).trans pb9
          have nb10 := (HB10.out.block _ (heap_lt nb8)).trans nb8
          have HER10 := Lib.hid (own_on HER8.out HB10.out)
          have HG10 := Lib.hid (HG8.out.below HB10.out (Nat.le_refl _))
          have HS10 := Lib.hid (show w8.heap.size + 1 ≤ w10.heap.size by have := heap_lt hfb; omega)
          have HTV := Lib.hid (fun (j : Nat) (hj : tv.ownBlock = some j) => (show v.ownBlock ≠ some j by
            intro hv
            have h1 := (HG8.out.own.lt j hv).2
            have h2 := (htr.lt j hj).1
            have h3 := HFB.out
            omega))
          have HLT := Lib.hid (show w.heap.size + 2 ≤ w8.heap.size by have := HEW.out; have := HEL.out; omega)
          obtain ⟨ta, tc, rfl⟩ : ∃ ta tc, tv = .slice ta ps.length tc := by
            rcases htr.2 with ⟨h, hn⟩ | ⟨g, cap, _, h, _⟩
            · exact ⟨none, 0, by rw [h, hn]⟩
            · exact ⟨_, _, h⟩
          have HFB2 := Lib.hid (show w8.heap.size < w9.heap.size + 1 by have := HFB.out; omega)
          have HFB3 := Lib.hid (show w8.heap.size = w8.heap.size from rfl)
          have HST0 := Lib.hid (show RawF W0.heap.size w8.heap.size w10 v ys ps (.slice ta ps.length tc) v (.int .i64 0) w10 from ⟨0, none, 0, Nat.zero_le _, rfl, Lib.hid (by rw [show ys ++ rawsN ((ps.take 0).map pieceN) = ys by simp [rawsN]]; exact RawGot.start HG10.out.own), hfb, Lib.hid (World.ownsRow_nil _ _ _ _), Lib.hid fun j hj => ⟨HTV.out j hj, rfl⟩⟩)
          clear CP9 d0 d1 d2 d3 p0 p1 p2 htr hb10 hf9 he9 hx9 pb9 pb8 nb8 hfb hx8 he8
          go_wp2
          go_loopw [2, 18] (fun v2 i2 wr2 => RawF W0.heap.size w8.heap.size w10 v ys ps (.slice ta ps.length tc) v2 i2 wr2) (fun _ i _ => ps.length - (intOf i).toNat)
          case atStart => exact HST0.out
          case round =>
          obtain ⟨v2, rfl⟩ : ∃ v2, v2 = u2 := ⟨_, rfl⟩
          obtain ⟨wr2, rfl⟩ : ∃ wr2, wr2 = wr := ⟨_, rfl⟩
          obtain ⟨q, pa, pcap, hq, rfl, HG2, hfb, HPR, HTT⟩ := hrel
          have hfl : w8.heap.size ≤ w10.heap.size := by have := HS10.out; omega
          by_cases h2 : q < ps.length
          · have h2' : (q : Int) < (ps.length : Int) := by omega
            have HTW := Lib.hid (own_block2 HTR.out fun g hg => (HTT.out g hg).2)
            obtain ⟨_, _, hv, _, _, hx⟩ := StrRow.of_owns HTW.out
            cases hv
            rcases hx with hx | ⟨g, o2, rfl, hx⟩
            · exfalso; rw [hx] at h2; simp at h2
            have hc1 := str_cell hx h2
            have HPT := Lib.hid (show ((ps.take (q + 1)).map partN).flatMap prtC = ((ps.take q).map partN).flatMap prtC ++ [S (keyN (pieceN ps[q])), .int .i64 (ps[q].length : Nat)] by rw [List.take_succ_eq_append_getElem h2, List.map_append, List.flatMap_append]; rfl)
            have HYT := Lib.hid (show ys ++ rawsN ((ps.take (q + 1)).map pieceN) = (ys ++ rawsN ((ps.take q).map pieceN)) ++ [writeN (pieceN ps[q])] by rw [List.take_succ_eq_append_getElem h2, List.map_append, rawsN_app, ← List.append_assoc]; rfl)
            have hyl2 : (ys ++ rawsN ((ps.take q).map pieceN)).length ≤ 201100 := by rw [List.length_append, rawsN_len, List.length_map, List.length_take]; omega
            have hsl := (HEACH.out ps[q] (by simp)).2
            generalize ps[q] = s at *
            generalize ys ++ rawsN ((ps.take q).map pieceN) = zs at *
            obtain ⟨wA, hwA, hsA, HBA⟩ : ∃ wA, wA = wr2.alloc (.cells #[.int .i64 1, S s, .slice none 0 0, .slice none 0 0] 77) ∧ wA.heap[wr2.heap.size]? = some (.cells #[.int .i64 1, S s, .slice none 0 0, .slice none 0 0] 77 (0, 0)) ∧ Hid (Below wr2.heap.size wr2 wA) :=
              ⟨_, rfl, heap_alloc_new _ _, Lib.hid ((Below.refl _ _).alloc (Nat.le_refl _) _)⟩
            have CW : Calls Tryz.prog 50 #[.agg #[.int .i64 1, S s, .slice none 0 0, .slice none 0 0]] wA _ := rwrite11_walk (.slice none 0 0) (.slice none 0 0) (pieceN s) wA ⟨Row.nil _ _, Row.nil _ _⟩ (by simp; omega) (by simp) (by simp) (by simp)
            have CK : ∀ W, Calls Tryz.prog 51 #[.agg #[.int .i64 1, S s, .slice none 0 0, .slice none 0 0]] W _ := fun W => rkey11_walk (.slice none 0 0) (.slice none 0 0) (pieceN s) W ⟨Row.nil _ _, Row.nil _ _⟩ (by simp; omega) (by simp) (by simp) (by simp)
            generalize writeN (pieceN s) = rs at *
            generalize keyN (pieceN s) = kk at *
            clear hx
            go_upto_region 18 with fail
            rw [← hwA]
            clear hwA
            obtain ⟨⟨z0, z1, z2, z3⟩, -, -⟩ := box4 hsA
            go_wp2_with fail
            refine CW.mono ?_
            rintro e9 wB ⟨rfl, hbB⟩
            have HBB := Lib.hid (show Below wr2.heap.size wr2 wB from below_chain HBA.out hbB HBA.out.size)
            have hsB := (hbB.block _ (heap_lt hsA)).trans hsA
            have HGB := Lib.hid ((HG2.out.below HBB.out hfl).below ((Below.refl _ _).alloc (Nat.le_refl _) (.cells #[S rs] 9)) hfl)
            have HSB := Lib.hid (show w10.heap.size ≤ wB.heap.size from Nat.le_trans HG2.out.size HBB.out.size)
            clear CW z0 z1 z2 z3 hbB hsA
            have hbs : W0.heap.size ≤ w10.heap.size := Nat.le_trans HBS.out HG10.out.size
            go_wp2_with (at_builtin; refine wpList_append_sep rfl _ _ 38 rfl W0.heap.size 9 is (.string ⟨#[]⟩) 1 16 Tryz.underlying38 his hq0 hq1 hq2 rfl (by decide) _ _ _ rfl HGB.out.own ⟨wB.heap.size, 0, none⟩ 1 1 [S rs] rfl rfl (new_cell_at rfl _ _) (s_one _) (by unfold maxLen; omega) (by omega) (by rw [World.size_alloc]; have := HSB.out; omega) (by decide) ?_)
            intro v3 wD h3 hg3 hsep3
            have HGD := Lib.hid (HGB.out.app h3 hg3 (by first | exact hsep3 | (rw [World.size_alloc]; exact hsep3)) hfl)
            have HKD := Lib.hid (fun (b : Nat) (cs : Array Value) (t : Nat) (hb : wB.heap[b]? = some (.cells cs t (0, 0))) (ht : 9 ≠ t) => (show wD.heap[b]? = wB.heap[b]? from (hg3.block b (by rw [World.size_alloc]; have := heap_lt hb; omega) (fun e => RawGot.other HGB.out.own ((Below.heap_alloc _ _ _ (heap_lt hb)).trans hb) ht e.symm)).trans (Below.heap_alloc _ _ _ (heap_lt hb))))
            have hsD := (HKD.out _ _ _ hsB (by decide)).trans hsB
            have hfB := (HBB.out.block _ (heap_lt hfb)).trans hfb
            have hfD := (HKD.out _ _ _ hfB (by decide)).trans hfB
            have HPD := Lib.hid (own_keepR (own_on HPR.out HBB.out) fun g cs hg => HKD.out g cs _ hg (by decide))
            have HTD := Lib.hid (fun (j : Nat) (hj : (Value.slice (some ⟨g, o2, none⟩) ps.length tc).ownBlock = some j) => (show v3.ownBlock ≠ some j ∧ wD.heap[j]? = w10.heap[j]? by
              obtain ⟨h1, h4⟩ := HTT.out j hj
              have hjl : j < wr2.heap.size := (HTW.out.lt j hj).2
              have hjB : j < wB.heap.size := Nat.lt_of_lt_of_le hjl HBB.out.size
              refine ⟨?_, ?_⟩
              · rcases hsep3 with h5 | h5
                · rw [h5]; exact h1
                · intro e; rw [h5] at e; injection e with e; first | omega | (rw [World.size_alloc] at e; omega)
              · exact (hg3.block j (by rw [World.size_alloc]; omega) (fun e => h1 e.symm)).trans ((Below.heap_alloc _ _ _ hjB).trans ((HBB.out.block _ hjl).trans h4))))
            have hcD : wD.cell? ⟨g, o2 + q, none⟩ = some (S s) := by
              have h4 := (HTD.out g rfl).2
              have h5 := (HTT.out g rfl).2
              exact (World.cell?_of_block (a := ⟨g, o2 + q, none⟩) (h4.trans h5.symm)).trans hc1
            have HSB2 := Lib.hid (show w8.heap.size < wr2.heap.size from heap_lt hfb)
            have HSD := Lib.hid (show w10.heap.size ≤ wD.heap.size from HGD.out.size)
            obtain ⟨wE, hwE, HGE, hsE, hfE, HPE, HTE, hcE, HSE⟩ : ∃ wE : World, wE = { wD with drawn := wD.drawn + 1 } ∧ Hid (RawGot W0.heap.size w8.heap.size w10 wE v v3 (zs ++ [rs])) ∧ wE.heap[wr2.heap.size]? = some (.cells #[.int .i64 1, S s, .slice none 0 0, .slice none 0 0] 77 (0, 0)) ∧ wE.heap[w8.heap.size]? = some (.cells #[.int .i64 2, .string ⟨#[]⟩, .slice pa q pcap, .slice none 0 0] 77 (0, 0)) ∧ Hid (wE.ownsRow w10.heap.size 100 2 (.slice pa q pcap) q (((ps.take q).map partN).flatMap prtC)) ∧ Hid (∀ j, (Value.slice (some ⟨g, o2, none⟩) ps.length tc).ownBlock = some j → v3.ownBlock ≠ some j ∧ wE.heap[j]? = w10.heap[j]?) ∧ wE.cell? ⟨g, o2 + q, none⟩ = some (S s) ∧ Hid (w10.heap.size ≤ wE.heap.size) :=
              ⟨_, rfl, Lib.hid (HGD.out.below ⟨rfl, rfl, rfl, Nat.le_refl _, fun _ _ => rfl⟩ hfl), hsD, hfD, Lib.hid (own_on HPD.out ⟨rfl, rfl, rfl, Nat.le_refl _, fun _ _ => rfl⟩), HTD, hcD, HSD⟩
            clear hsB hfB hsD hfD hcD h3 hg3 hsep3 HKD HGD HGB HPD HTD HBB HBA HTW HTT HPR HG2 hfb hc1 HSD HSB
            have HTG := Lib.hid (HTR.out.lt g rfl)
            have HFIN := Lib.hid (fun (wF w7 : World) (g' cap' : Nat) (tmp : Obj) (hbF : Below wE.heap.size wE wF) (hown' : w7.ownsRow w10.heap.size 100 2 (.slice (some ⟨g', 0, none⟩) (q + 1) cap') (q + 1) (((ps.take q).map partN).flatMap prtC ++ [S kk, .int .i64 s.length])) (hgrow : (wF.alloc tmp).grownBy w7 (Value.slice pa q pcap).ownBlock) =>
              show Hid (w7.heap[w8.heap.size]? = some (.cells #[.int .i64 2, .string ⟨#[]⟩, .slice pa q pcap, .slice none 0 0] 77 (0, 0))) ∧ Hid (w7.heap[wr2.heap.size]? = some (.cells #[.int .i64 1, S s, .slice none 0 0, .slice none 0 0] 77 (0, 0)) ∧ w7.cell? ⟨g, o2 + q, none⟩ = some (S s)) ∧ Hid ((w7.setCell ⟨w8.heap.size, 2, none⟩ (.slice (some ⟨g', 0, none⟩) (q + 1) cap')).heap[wr2.heap.size]? = some (.cells #[.int .i64 1, S s, .slice none 0 0, .slice none 0 0] 77 (0, 0)) ∧ (w7.setCell ⟨w8.heap.size, 2, none⟩ (.slice (some ⟨g', 0, none⟩) (q + 1) cap')).cell? ⟨g, o2 + q, none⟩ = some (S s)) ∧
                Hid (RawF W0.heap.size w8.heap.size w10 v ys ps (.slice (some ⟨g, o2, none⟩) ps.length tc) v3 (.int .i64 ((q : Int) + 1)) (w7.setCell ⟨w8.heap.size, 2, none⟩ (.slice (some ⟨g', 0, none⟩) (q + 1) cap'))) from by
              have hs10 := HS10.out
              have hsb2 := HSB2.out
              have hpr := HPE.out
              have hne : ∀ j, (Value.slice pa q pcap).ownBlock = some j → w10.heap.size ≤ j := fun j hj => (hpr.lt j hj).1
              have hold : ∀ j, j < wE.heap.size → some j ≠ (Value.slice pa q pcap).ownBlock → w7.heap[j]? = wE.heap[j]? := fun j hj hn => (hgrow.block j (by rw [World.size_alloc]; have := hbF.size; omega) hn).trans ((Below.heap_alloc _ _ _ (by have := hbF.size; omega)).trans (hbF.block j hj))
              have hf7 := (hold _ (heap_lt hfE) (fun e => by have := hne _ e.symm; omega)).trans hfE
              have hs7 := (hold _ (heap_lt hsE) (fun e => by
                rcases hpr.2 with ⟨h, _⟩ | ⟨gg, cap, cur, h, _, hgg, _⟩
                · rw [h] at e; simp [Value.ownBlock] at e
                · rw [h] at e; simp only [Value.ownBlock, Option.some.injEq] at e
                  subst e
                  rw [hsE] at hgg
                  injection hgg with hgg
                  injection hgg with _ hgg
                  exact absurd hgg (by decide))).trans hsE
              have hgl := HTG.out.2
              have hg7 : w7.heap[g]? = wE.heap[g]? := hold g (by have := HSE.out; omega) (fun e => by have := hne _ e.symm; omega)
              have hc7 : w7.cell? ⟨g, o2 + q, none⟩ = some (S s) := (World.cell?_of_block (a := ⟨g, o2 + q, none⟩) hg7).trans hcE
              have hgf : g ≠ w8.heap.size := by have := HTG.out.1; have := HFB2.out; omega
              have hgs : ∀ b, b ≠ w8.heap.size → (w7.setCell ⟨w8.heap.size, 2, none⟩ (.slice (some ⟨g', 0, none⟩) (q + 1) cap')).heap[b]? = w7.heap[b]? := fun b hb => Below.heap_setCell _ _ _ _ hb
              refine ⟨Lib.hid hf7, Lib.hid ⟨hs7, hc7⟩, Lib.hid ⟨(hgs _ (by omega)).trans hs7, (World.cell?_of_block (a := ⟨g, o2 + q, none⟩) (hgs g hgf)).trans hc7⟩, Lib.hid ⟨q + 1, some ⟨g', 0, none⟩, cap', by omega, by go_num, ?_, ?_, ?_, ?_⟩⟩
              · rw [HYT.out]
                refine Lib.hid (HGE.out.step (by exact hgrow.os.trans hbF.os) (by exact hgrow.tape.trans hbF.tape) (by exact hgrow.output.trans hbF.output) (by rw [World.size_setCell]; exact Nat.le_trans hbF.size (Nat.le_trans (by simp) hgrow.size)) (fun j hj hc => ?_) hfl)
                have h9 : j ≠ w8.heap.size := by
                  rcases hc with hc | hc
                  · omega
                  · rintro rfl; exact RawGot.other HGE.out.own hfE (by decide) hc
                refine (hgs j h9).trans (hold j hj fun e => ?_)
                rcases hc with hc | hc
                · have := hne j e.symm; omega
                · exact own_ne HGE.out.own hpr (by decide) hc e.symm
              · exact heap_set_cell (o := 2) hf7 _
              · rw [HPT.out]; exact Lib.hid (own_cell hown' (by omega) _ _)
              · refine Lib.hid fun j hj => ⟨(HTE.out j hj).1, ?_⟩
                have hjg : j = g := by simpa [Value.ownBlock] using hj.symm
                subst hjg
                exact (hgs j hgf).trans (hg7.trans (HTE.out j hj).2))
            have HOA := HPE
            go_upto_region 19 with fail
            (refine wp_region_held (S := fun W => W.heap[wr2.heap.size]? = some (.cells #[.int .i64 1, S s, .slice none 0 0, .slice none 0 0] 77 (0, 0)) ∧ W.cell? ⟨g, o2 + q, none⟩ = some (S s)) (by kernel_rfl) ?_)
            rw [← hwE]
            clear hwE
            obtain ⟨⟨z0, z1, z2, z3⟩, -, -⟩ := box4 hsE
            obtain ⟨⟨y0, y1, y2, y3⟩, -, -⟩ := box4 hfE
            (refine wpAnyH_take (i := 0) (v := ?_) rfl (by kernel_rfl) (by kernel_rfl) (by kernel_rfl) (fun _ _ _ h => h) (Or.inl ⟨by rfl, ?_⟩) (by exact ⟨hsE, hcE⟩) ?_; rotate_left; (intro w9 hS9; skip; go_simp; try with_reducible rfl))
            (refine wpAnyH_take (i := 2) (v := ?_) rfl (by kernel_rfl) (by kernel_rfl) (by kernel_rfl) (fun _ _ _ h => h) (Or.inl ⟨by rfl, ?_⟩) (by exact ⟨hsE, hcE⟩) ?_; rotate_left; (intro w9 hS9; (obtain ⟨⟨d0, d1, d2, d3⟩, -, -⟩ := box4 hS9.1); go_simp; try with_reducible rfl))
            (refine wpAnyH_take (i := 4) (v := ?_) rfl (by kernel_rfl) (by kernel_rfl) (by kernel_rfl) (fun _ _ _ h => h) (Or.inl ⟨by rfl, ?_⟩) (by exact ⟨hsE, hcE⟩) ?_; rotate_left; (intro w9 hS9; skip; go_simp; try with_reducible rfl))
            (refine wpAnyH_take (i := 5) (v := ?_) rfl (by kernel_rfl) (by kernel_rfl) (by kernel_rfl) (fun _ _ _ h => h) (Or.inl ⟨by rfl, ?_⟩) (by exact ⟨hsE, hcE⟩) ?_; rotate_left; (intro w9 hS9; skip; go_simp; try with_reducible rfl))
            (refine wpAnyH_take (i := 6) (v := ?_) rfl (by kernel_rfl) (by kernel_rfl) (by kernel_rfl) (fun _ _ _ h => h) (Or.inl ⟨by rfl, ?_⟩) (by exact ⟨hsE, hcE⟩) ?_; rotate_left; (intro w9 hS9; skip; go_simp; try with_reducible rfl))
            (refine wpAnyH_take (i := 7) (v := ?_) rfl (by kernel_rfl) (by kernel_rfl) (by kernel_rfl) (fun _ _ _ h => h) (Or.inl ⟨by rfl, ?_⟩) (by exact ⟨hsE, hcE⟩) ?_; rotate_left; (intro w9 hS9; (replace hS9 : w9.cell? ⟨g, o2 + q, none⟩ = some (S s) := hS9.2); go_simp; try with_reducible rfl))
            (refine wpAnyH_take (i := 8) (v := ?_) rfl (by kernel_rfl) (by kernel_rfl) (by kernel_rfl) (fun _ _ _ h => h) (Or.inl ⟨by rfl, ?_⟩) (by exact ⟨hsE, hcE⟩) ?_; rotate_left; (intro w9 hS9; skip; go_simp; try with_reducible rfl))
            refine wpAnyH_two (i := 1) (j := 3) (by kernel_rfl) rfl rfl (fun K hK => ?_) (fun K hK => ?_)
            · (go_simp; refine hK _ _ ⟨hsE, hcE⟩ ?_; clear hK K)
              refine wpAnyH_one (i := 3) (by kernel_rfl) rfl (fun K hK => ?_)
              go_simp
              refine (CK wE).mono ?_
              rintro e9 wF ⟨rfl, hbF⟩
              have hsF := (hbF.block _ (heap_lt hsE)).trans hsE
              have hfF := (hbF.block _ (heap_lt hfE)).trans hfE
              have hcF := cell_below hbF hcE
              refine hK _ _ ⟨hsF, hcF⟩ ?_
              clear hK K
              (refine wpAnyH_take (i := 9) (v := ?_) rfl (by kernel_rfl) (by kernel_rfl) (by kernel_rfl) (fun _ _ _ h => h) (Or.inl ⟨by rfl, ?_⟩) (by exact ⟨hsF, hcF⟩) ?_; rotate_left; (intro w9 hS9; skip; go_simp; try with_reducible rfl))
              refine wpAnyH_one (i := 10) (by kernel_rfl) rfl (fun K hK => ?_)
              (go_simp; refine hK _ _ ⟨(Below.heap_alloc _ _ _ (heap_lt hsF)).trans hsF, cell_old hcF _⟩ ?_; clear hK K)
              refine wpAnyH_one (i := 11) (by kernel_rfl) rfl (fun K hK => ?_)
              rw [if_pos (by rfl)]
              refine wp_append_own _ (.tmp 85) (.tmp 94) 74 rfl w10.heap.size 100 ip (.agg #[.string ⟨#[]⟩, .int .i64 0]) 2 24 Tryz.underlying74 hip hip0 hip1 hip2 rfl (by decide) (.slice pa q pcap) q (((ps.take q).map partN).flatMap prtC) rfl ((own_on HPE.out hbF).alloc _) ⟨wF.heap.size, 0, none⟩ 1 1 [S kk, .int .i64 s.length] rfl rfl (new_cells wF (S kk) (.int .i64 s.length) 100) (by intro u hu; simp at hu; rcases hu with rfl | rfl <;> rfl) (by unfold maxLen; omega) (by omega) (by rw [World.size_alloc]; have := HSE.out; have := hbF.size; omega) ?_
              intro v' w7 hown' hgrow _
              obtain ⟨g', cap', rfl⟩ := ownsRow_succ hown'
              obtain ⟨HBX7, HS7, HS8, HEND⟩ := HFIN.out wF w7 g' cap' _ hbF hown' hgrow
              clear hown' hgrow
              obtain ⟨⟨z0, z1, z2, z3⟩, ⟨y0, y1, y2, y3⟩, ⟨x0, x1, x2, x3⟩⟩ := box4 HBX7.out
              refine hK _ _ HS7.out ?_
              clear hK K
              (refine wpAnyH_take (i := 12) (v := ?_) rfl (by kernel_rfl) (by kernel_rfl) (by kernel_rfl) (fun _ _ _ h => h) (Or.inl ⟨by rfl, ?_⟩) (by exact HS7.out) ?_; rotate_left; (intro w9 hS9; skip; go_simp; try with_reducible rfl))
              refine wpAnyH_one (i := 13) (by kernel_rfl) rfl (fun K hK => ?_)
              (go_simp; refine hK _ _ HS8.out ?_; clear hK K)
              (refine wpAnyH_done (by kernel_rfl) ?_ _)
              go_wp2
              go_roundw
              case rel => exact HEND.out
              case measure => simp [intOf]; omega
            · go_simp
              refine (CK wE).mono ?_
              rintro e9 wF ⟨rfl, hbF⟩
              have hsF := (hbF.block _ (heap_lt hsE)).trans hsE
              have hfF := (hbF.block _ (heap_lt hfE)).trans hfE
              have hcF := cell_below hbF hcE
              refine hK _ _ ⟨hsF, hcF⟩ ?_
              clear hK K
              (refine wpAnyH_take (i := 9) (v := ?_) rfl (by kernel_rfl) (by kernel_rfl) (by kernel_rfl) (fun _ _ _ h => h) (Or.inl ⟨by rfl, ?_⟩) (by exact ⟨hsF, hcF⟩) ?_; rotate_left; (intro w9 hS9; skip; go_simp; try with_reducible rfl))
              obtain ⟨⟨y0, y1, y2, y3⟩, -, -⟩ := box4 hfF
              refine wpAnyH_two (i := 1) (j := 10) (by kernel_rfl) rfl rfl (fun K hK => ?_) (fun K hK => ?_)
              · (go_simp; refine hK _ _ ⟨hsF, hcF⟩ ?_; clear hK K)
                refine wpAnyH_one (i := 10) (by kernel_rfl) rfl (fun K hK => ?_)
                (go_simp; refine hK _ _ ⟨(Below.heap_alloc _ _ _ (heap_lt hsF)).trans hsF, cell_old hcF _⟩ ?_; clear hK K)
                refine wpAnyH_one (i := 11) (by kernel_rfl) rfl (fun K hK => ?_)
                rw [if_pos (by rfl)]
                refine wp_append_own _ (.tmp 85) (.tmp 94) 74 rfl w10.heap.size 100 ip (.agg #[.string ⟨#[]⟩, .int .i64 0]) 2 24 Tryz.underlying74 hip hip0 hip1 hip2 rfl (by decide) (.slice pa q pcap) q (((ps.take q).map partN).flatMap prtC) rfl ((own_on HPE.out hbF).alloc _) ⟨wF.heap.size, 0, none⟩ 1 1 [S kk, .int .i64 s.length] rfl rfl (new_cells wF (S kk) (.int .i64 s.length) 100) (by intro u hu; simp at hu; rcases hu with rfl | rfl <;> rfl) (by unfold maxLen; omega) (by omega) (by rw [World.size_alloc]; have := HSE.out; have := hbF.size; omega) ?_
                intro v' w7 hown' hgrow _
                obtain ⟨g', cap', rfl⟩ := ownsRow_succ hown'
                obtain ⟨HBX7, HS7, HS8, HEND⟩ := HFIN.out wF w7 g' cap' _ hbF hown' hgrow
                clear hown' hgrow
                obtain ⟨⟨z0, z1, z2, z3⟩, ⟨y0, y1, y2, y3⟩, ⟨x0, x1, x2, x3⟩⟩ := box4 HBX7.out
                refine hK _ _ HS7.out ?_
                clear hK K
                (refine wpAnyH_take (i := 12) (v := ?_) rfl (by kernel_rfl) (by kernel_rfl) (by kernel_rfl) (fun _ _ _ h => h) (Or.inl ⟨by rfl, ?_⟩) (by exact HS7.out) ?_; rotate_left; (intro w9 hS9; skip; go_simp; try with_reducible rfl))
                refine wpAnyH_one (i := 13) (by kernel_rfl) rfl (fun K hK => ?_)
                (go_simp; refine hK _ _ HS8.out ?_; clear hK K)
                (refine wpAnyH_done (by kernel_rfl) ?_ _)
                go_wp2
                go_roundw
                case rel => exact HEND.out
                case measure => simp [intOf]; omega
              · (go_simp; refine hK _ _ ⟨(Below.heap_alloc _ _ _ (heap_lt hsF)).trans hsF, cell_old hcF _⟩ ?_; clear hK K)
                obtain ⟨⟨q0, q1, q2, q3⟩, -, -⟩ := box4 ((Below.heap_alloc wF (.cells #[S kk, .int .i64 s.length] 100) _ (heap_lt hfF)).trans hfF)
                refine wpAnyH_one (i := 1) (by kernel_rfl) rfl (fun K hK => ?_)
                (go_simp; refine hK _ _ ⟨(Below.heap_alloc _ _ _ (heap_lt hsF)).trans hsF, cell_old hcF _⟩ ?_; clear hK K)
                refine wpAnyH_one (i := 11) (by kernel_rfl) rfl (fun K hK => ?_)
                rw [if_pos (by rfl)]
                refine wp_append_own _ (.tmp 85) (.tmp 94) 74 rfl w10.heap.size 100 ip (.agg #[.string ⟨#[]⟩, .int .i64 0]) 2 24 Tryz.underlying74 hip hip0 hip1 hip2 rfl (by decide) (.slice pa q pcap) q (((ps.take q).map partN).flatMap prtC) rfl ((own_on HPE.out hbF).alloc _) ⟨wF.heap.size, 0, none⟩ 1 1 [S kk, .int .i64 s.length] rfl rfl (new_cells wF (S kk) (.int .i64 s.length) 100) (by intro u hu; simp at hu; rcases hu with rfl | rfl <;> rfl) (by unfold maxLen; omega) (by omega) (by rw [World.size_alloc]; have := HSE.out; have := hbF.size; omega) ?_
                intro v' w7 hown' hgrow _
                obtain ⟨g', cap', rfl⟩ := ownsRow_succ hown'
                obtain ⟨HBX7, HS7, HS8, HEND⟩ := HFIN.out wF w7 g' cap' _ hbF hown' hgrow
                clear hown' hgrow
                obtain ⟨⟨z0, z1, z2, z3⟩, ⟨y0, y1, y2, y3⟩, ⟨x0, x1, x2, x3⟩⟩ := box4 HBX7.out
                refine hK _ _ HS7.out ?_
                clear hK K
                (refine wpAnyH_take (i := 12) (v := ?_) rfl (by kernel_rfl) (by kernel_rfl) (by kernel_rfl) (fun _ _ _ h => h) (Or.inl ⟨by rfl, ?_⟩) (by exact HS7.out) ?_; rotate_left; (intro w9 hS9; skip; go_simp; try with_reducible rfl))
                refine wpAnyH_one (i := 13) (by kernel_rfl) rfl (fun K hK => ?_)
                (go_simp; refine hK _ _ HS8.out ?_; clear hK K)
                (refine wpAnyH_done (by kernel_rfl) ?_ _)
                go_wp2
                go_roundw
                case rel => exact HEND.out
                case measure => simp [intOf]; omega
          · have h2' : ¬ (q : Int) < (ps.length : Int) := by omega
            obtain rfl : q = ps.length := by omega
            rw [List.take_of_length_le (Nat.le_refl _)] at HG2 HPR
            have hprow : NodRow wr2 (fileN ps) (.slice pa ps.length pcap) (.slice none 0 0) := by
              refine ⟨Row.of_ownsK (f := prtC) (K := 2) (base := w10.heap.size) (e := 100) (fun _ => rfl) ?_, Row.nil _ _⟩
              show wr2.ownsRow _ _ _ _ (ps.map partN).length _
              rw [List.length_map]; exact HPR.out
            have CW : Calls Tryz.prog 50 #[.agg #[.int .i64 2, .string ⟨#[]⟩, .slice pa ps.length pcap, .slice none 0 0]] wr2 _ := rwrite11_walk (.slice pa ps.length pcap) (.slice none 0 0) (fileN ps) wr2 hprow (by simp [fileN]) (by simp [fileN]; omega) (by simp [fileN]) (by simp [fileN])
            have HKEY := Lib.hid (show shaF (writeN (fileN ps)) = keyN (fileN ps) from (keyN_eq HFIT2.out).symm)
            have HRL := Lib.hid (writeN_len (n := fileN ps))
            have hzl : (ys ++ rawsN (ps.map pieceN)).length ≤ 201100 := by rw [List.length_append, rawsN_len, List.length_map]; omega
            generalize ys ++ rawsN (ps.map pieceN) = zs at *
            generalize writeN (fileN ps) = raw at *
            generalize keyN (fileN ps) = kk at *
            clear hprow HPR
            obtain ⟨⟨z0, z1, z2, z3⟩, -, -⟩ := box4 hfb
            have hbs : W0.heap.size ≤ w10.heap.size := Nat.le_trans HBS.out HG10.out.size
            go_wp2_with fail
            refine CW.mono ?_
            rintro e9 wB ⟨rfl, hbB⟩
            have HGB := Lib.hid ((HG2.out.below hbB hfl).below ((Below.refl _ _).alloc (Nat.le_refl _) (.cells #[S raw] 9)) hfl)
            have HSB := Lib.hid (show w10.heap.size ≤ wB.heap.size from Nat.le_trans HG2.out.size hbB.size)
            clear CW z0 z1 z2 z3
            go_wp2_with (at_builtin; refine wpList_append_sep rfl _ _ 38 rfl W0.heap.size 9 is (.string ⟨#[]⟩) 1 16 Tryz.underlying38 his hq0 hq1 hq2 rfl (by decide) _ _ _ rfl HGB.out.own ⟨wB.heap.size, 0, none⟩ 1 1 [S raw] rfl rfl (new_cell_at rfl _ _) (s_one _) (by unfold maxLen; omega) (by omega) (by rw [World.size_alloc]; have := HSB.out; omega) (by decide) ?_)
            intro v3 wD h3 hg3 hsep3
            have hgD := HGB.out.app h3 hg3 (by first | exact hsep3 | (rw [World.size_alloc]; exact hsep3)) hfl
            have HKP := Lib.hid (fun (b : Nat) (cs : Array Value) (t : Nat) (hbf : b < w8.heap.size) (hb : w10.heap[b]? = some (.cells cs t (0, 0))) (ht : 9 ≠ t) => (show wD.heap[b]? = w10.heap[b]? from hgD.block b hbf (heap_lt hb) (fun e => RawGot.other HG10.out.own hb ht e.symm)))
            have pbD := (HKP.out w.heap.size _ _ (by have := HLT.out; omega) pb10 (by decide)).trans pb10
            have nbD := (HKP.out (w.heap.size + 1) _ _ (by have := HLT.out; omega) nb10 (by decide)).trans nb10
            have heD := (HKP.out e _ _ (by have := HEL.out; have := HFB3.out; omega) he10 (by decide)).trans he10
            have HERD := Lib.hid (own_block2 (w' := wD) HER10.out fun g hg => by
              rcases HER10.out.2 with ⟨h, _⟩ | ⟨g1, cap, cur, h, _, hg1, _⟩
              · rw [h] at hg; simp [Value.ownBlock] at hg
              · rw [h] at hg; simp only [Value.ownBlock, Option.some.injEq] at hg
                subst hg
                exact HKP.out g1 _ _ (by have := (HER8.out.lt g1 (by rw [h]; rfl)).2; have := HFB3.out; omega) hg1 (by decide))
            have HGD := Lib.hid (HG10.out.trans hgD (by have := HLT.out; omega) (Nat.le_refl _))
            clear hgD h3 hg3 hsep3 HKP HGB HG2 hfb pb10 nb10 he10 HER10 HG10
            obtain ⟨g9, cap9, rfl⟩ : ∃ g9 cap9, v3 = .slice (some ⟨g9, 0, none⟩) (zs.length + 1) cap9 := by
              have h := HGD.out.own
              rw [List.length_append, List.length_singleton] at h
              exact ownsRow_succ h
            have rl : wD.cell? ⟨g9, zs.length, none⟩ = some (S raw) := by
              have h := HGD.out.own
              rw [List.length_append, List.length_singleton] at h
              exact texts_cell h (by simp)
            obtain ⟨mz, hm⟩ : ∃ mz, zs.length = mz := ⟨_, rfl⟩
            rw [hm] at HGD rl hzl ⊢
            have hmw2 : IntKind.i64.wrap (mz : Int) = (mz : Int) := by rw [IntKind.wrap_i64]; omega
            have hm4 : (mz : Int) + 1 - 1 = (mz : Int) := by omega
            have hm5 : (mz : Int) < (mz : Int) + 1 := by omega
            have CS2 := rsha_walk raw wD (by have := HRL.out; omega)
            rw [HKEY.out] at CS2
            clear hm
            go_wp2_with fail
            refine CS2.mono ?_
            rintro e8 w14 ⟨rfl, hb14⟩
            clear CS2 rl hmw2 hm4 hm5
            have he14 := (hb14.block _ (heap_lt heD)).trans heD
            obtain ⟨w11, hw11, he11, pb11, nb11, HER11, HG11⟩ : ∃ w11, w11 = w14.setCell ⟨e, 3, none⟩ (S kk) ∧ w11.heap[e]? = some (.cells #[S ln, .int .i64 2, .bool ex, S kk] 80 (0, 0)) ∧ w11.heap[w.heap.size]? = some (.cells #[.int .i64 (x : Nat), .int .i64 (y : Nat), .int .i64 (z : Nat)] 23 (0, 0)) ∧ w11.heap[w.heap.size + 1]? = some (.cells #[.int .i64 3, .string ⟨#[]⟩, .slice none 0 0, .slice ea (inD (items.take k) d).length ec] 77 (0, 0)) ∧ Hid (w11.ownsRow (w.heap.size + 2) 80 4 (.slice ea (inD (items.take k) d).length ec) (inD (items.take k) d).length (((inD (items.take k) d).map (entK pc fun p => keyN (dirN pc items n p))).flatMap entC)) ∧ Hid (RawGot W0.heap.size w.heap.size w w11 ov (.slice (some ⟨g9, 0, none⟩) (mz + 1) cap9) (zs ++ [raw])) := by
              have h6 := HS6.out
              have hew := HEW.out
              have hk : ∀ b, b ≠ e → (w14.setCell ⟨e, 3, none⟩ (S kk)).heap[b]? = w14.heap[b]? := fun b hb => Below.heap_setCell _ _ _ _ hb
              have hg14 := HGD.out.below hb14 (Nat.le_refl _)
              refine ⟨_, rfl, heap_set_cell (o := 3) he14 _, (hk _ (by omega)).trans ((hb14.block _ (heap_lt pbD)).trans pbD), (hk _ (by omega)).trans ((hb14.block _ (heap_lt nbD)).trans nbD), Lib.hid (own_block2 (own_on HERD.out hb14) fun j hj => hk j (by rintro rfl; exact HEF.out hj)), Lib.hid (hg14.set (by omega) (RawGot.other hg14.own he14 (by decide)) (Nat.le_refl _))⟩
            clear hb14 HGD
            obtain ⟨⟨t0, t1, t2, t3⟩, ⟨f0, f1, f2, f3⟩, ⟨r0, r1, r2, r3⟩⟩ := box4 he14
            have hcnt4 : (inD (items.take k) d).length ≤ 60 := by omega
            go_upto_region 22 with fail
            rw [← hw11]
            clear hw11 t0 t1 t2 t3 f0 f1 f2 f3 r0 r1 r2 r3 he14
            obtain ⟨⟨z0, z1, z2, z3⟩, ⟨y0, y1, y2, y3⟩, ⟨x0, x1, x2, x3⟩⟩ := box4 nb11
            obtain ⟨⟨q0, q1, q2, q3⟩, -, -⟩ := box4 he11
            go_wp2_with (at_builtin; refine wpList_append_own _ rfl _ _ 75 rfl (w.heap.size + 2) 80 i0 (.agg #[.string ⟨#[]⟩, .int .i64 0, .bool false, .string ⟨#[]⟩]) 4 48 Tryz.underlying75 hi hz0 hz1 hz2 rfl (by decide) _ _ _ rfl (HER11.out.alloc _) ⟨w11.heap.size, 0, none⟩ 1 1 [S ln, .int .i64 2, .bool ex, S kk] rfl rfl ?c1 ?c2 ?c3 ?c4 ?c5 ?_)
            case c1 => exact new_cells4 _ _ _ _ _ _
            case c2 => intro u hu; simp at hu; rcases hu with rfl | rfl | rfl | rfl <;> rfl
            case c3 => unfold maxLen; omega
            case c4 => omega
            case c5 => simp; have := heap_lt nb11; omega
            intro v' w12 hown' hgrow _
            obtain ⟨g', cap', rfl⟩ := ownsRow_succ hown'
            obtain ⟨HNB, HEND⟩ := raw_round (B := W0.heap.size) (x := x) (y := y) (z := z) (it := (p, false, ex, data)) (pc := pc) (n := n) h1 HIN.out HENT.out HNS.out HG11.out pb11 nb11 HER11.out hown' hgrow
            clear hown' hgrow z0 z1 z2 z3 y0 y1 y2 y3 x0 x1 x2 x3 nb11 pb11
            obtain ⟨⟨z0, z1, z2, z3⟩, ⟨y0, y1, y2, y3⟩, ⟨x0, x1, x2, x3⟩⟩ := box4 HNB.out
            go_wp2
            go_roundw
            case rel => exact HEND.out
            case measure => simp [intOf]; omega
      · have h1' : ¬ (k : Int) < (items.length : Int) := by omega
        obtain rfl : k = items.length := by omega
        rw [List.take_of_length_le (Nat.le_refl _)] at HYS HER hnb
        have hnrow : NodRow wr (dirN pc items (n + 1) d) (.slice none 0 0) (.slice ea (inD items d).length ec) := by
          refine ⟨Row.nil _ _, Row.of_ownsK (f := entC) (K := 4) (base := w.heap.size + 2) (e := 80) (fun _ => rfl) ?_⟩
          show wr.ownsRow _ _ _ _ ((inD items d).map _).length _
          rw [List.length_map]; exact HER.out
        have hnl : ∀ e ∈ (dirN pc items (n + 1) d).ents, e.1.length ≤ 1100000 := by
          intro e he
          obtain ⟨q, hq, rfl⟩ := List.mem_map.1 he
          have := nameB_len (last_name (HRD.out.item (mem_inD.1 hq).1).1)
          show (lastN q.1).length ≤ _
          omega
        have hel2 : (inD items d).length ≤ 60 := by rw [List.take_of_length_le (Nat.le_refl _)] at hel; omega
        have CQ : Calls Tryz.prog 50 #[.agg #[.int .i64 3, .string ⟨#[]⟩, .slice none 0 0, .slice ea (inD items d).length ec]] wr _ := rwrite11_walk (.slice none 0 0) (.slice ea (inD items d).length ec) (dirN pc items (n + 1) d) wr hnrow (by simp [dirN]) (by simp [dirN]) (by simp [dirN]; omega) hnl
        have HE := Lib.hid (show ys ++ [writeN (dirN pc items (n + 1) d)] = xs ++ rawsN (nodesD pc items (n + 1) d) by rw [nodesD_succ, rawsN_app, ← List.append_assoc, HYS.out]; rfl)
        obtain ⟨⟨z0, z1, z2, z3⟩, -, -⟩ := box4 hnb
        clear hnrow hnl
        generalize writeN (dirN pc items (n + 1) d) = raw at *
        go_wp2_with fail
        refine CQ.mono ?_
        rintro e9 wB ⟨rfl, hbB⟩
        have HGB := Lib.hid ((HG.out.below hbB (Nat.le_refl _)).below ((Below.refl _ _).alloc (Nat.le_refl _) (.cells #[S raw] 9)) (Nat.le_refl _))
        have HSB := Lib.hid (show W0.heap.size ≤ wB.heap.size from Nat.le_trans HBS.out (Nat.le_trans HG.out.size hbB.size))
        clear CQ z0 z1 z2 z3
        go_wp2_with (at_builtin; refine wpList_append_sep rfl _ _ 38 rfl W0.heap.size 9 is (.string ⟨#[]⟩) 1 16 Tryz.underlying38 his hq0 hq1 hq2 rfl (by decide) _ _ _ rfl HGB.out.own ⟨wB.heap.size, 0, none⟩ 1 1 [S raw] rfl rfl (new_cell_at rfl _ _) (s_one _) (by unfold maxLen; omega) (by omega) (by rw [World.size_alloc]; have := HSB.out; omega) (by decide) ?_)
        intro v3 wD h3 hg3 hsep3
        have HGD := Lib.hid (HGB.out.app h3 hg3 (by first | exact hsep3 | (rw [World.size_alloc]; exact hsep3)) (Nat.le_refl _))
        clear h3 hg3 hsep3 HGB
        go_wp2
        go_ret
        exact ⟨_, rfl, by rw [← HE.out]; exact HGD.out⟩
end Go.Proofs.YtkejdbidomlonaaGreatDoor
