/- The reference's objects of a directory, and of a tree. -/
import Derived.Test.YtaompdnnkfmjhaaGreatDoorJRFile12
namespace Go.Proofs.YtaompdnnkfmjhaaGreatDoor
open Go.RowKit

/-- Between two rounds of dir. -/
def DirI (w : World) (x y z : Nat) (pc : List UInt8 → List (List UInt8)) (items : List Itm) (n : Nat) (lv : Value) (o : List Snp) (d : List UInt8) (v i : Value) (wr : World) : Prop :=
  ∃ (k : Nat) (o' : List Snp) (la' : Option Addr) (lc' : Nat) (ea : Option Addr) (ec : Nat), k ≤ items.length ∧ i = .int .i64 k ∧ v = .slice la' o'.length lc' ∧ Hid (OGot w wr lv o (.slice la' o'.length lc') o') ∧ Hid (o' = someO pc items n o (inD (items.take k) d)) ∧
    wr.heap[w.heap.size]? = some (.cells #[.int .i64 (x : Nat), .int .i64 (y : Nat), .int .i64 (z : Nat)] 51 (0, 0)) ∧
    wr.heap[w.heap.size + 1]? = some (.cells #[.int .i64 3, .string ⟨#[]⟩, .slice none 0 0, .slice ea (inD (items.take k) d).length ec] 36 (0, 0)) ∧
    Hid (wr.ownsRow (w.heap.size + 2) 82 4 (.slice ea (inD (items.take k) d).length ec) (inD (items.take k) d).length (((inD (items.take k) d).map (entK pc fun p => keyN (dirN pc items n p))).flatMap entC)) ∧ Hid (Below w.heap.size w wr)

theorem inD_step {items : List Itm} {d : List UInt8} {k : Nat} (h : k < items.length) : inD (items.take (k + 1)) d = if dirL items[k].1 = d then inD (items.take k) d ++ [items[k]] else inD (items.take k) d := by
  unfold inD
  rw [List.take_succ_eq_append_getElem h, List.filter_append]
  by_cases hd : dirL items[k].1 = d
  · rw [if_pos hd]; simp [hd]
  · rw [if_neg hd]; simp [hd]

/-- The state behind one more item of the directory's. -/
theorem someO_among {pc : List UInt8 → List (List UInt8)} {items : List Itm} (h : Ready pc items) {n : Nat} {d : List UInt8} (hn : n + 1 + deepD d = 9) : ∀ (l : List Itm) (o : List Snp), (∀ x ∈ l, x ∈ inD items d) → Among (keysT pc items) o → Among (keysT pc items) (someO pc items n o l)
  | [], _, _, ha => ha
  | x :: l, o, hl, ha => by
    obtain ⟨hx1, hx2⟩ := mem_inD.1 (hl x List.mem_cons_self)
    refine someO_among h hn l _ (fun y hy => hl y (List.mem_cons_of_mem _ hy)) ?_
    show Among _ (if x.2.1 = true then _ else _)
    split
    · refine h.among n x.1 o (.inr ⟨x, hx1, rfl⟩) ?_ ha
      have := (deep_step (h.item hx1).1).1
      rw [hx2] at this; omega
    · exact among_file ha hx1
theorem inD_take {items : List Itm} {d : List UInt8} (k : Nat) : ∀ x ∈ inD (items.take k) d, x ∈ inD items d := by
  intro x hx
  obtain ⟨h1, h2⟩ := mem_inD.1 hx
  exact mem_inD.2 ⟨List.mem_of_mem_take h1, h2⟩
theorem inD_len (items : List Itm) (d : List UInt8) (k : Nat) : (inD (items.take k) d).length ≤ items.length :=
  Nat.le_trans (List.length_filter_le _ _) (by rw [List.length_take]; omega)
theorem entK_dir {pc : List UInt8 → List (List UInt8)} {K : List UInt8 → List UInt8} {p data : List UInt8} {ex : Bool} : entC (entK pc K (p, true, ex, data)) = [S (lastN p), .int .i64 3, .bool ex, S (K p)] := rfl
theorem entK_file {pc : List UInt8 → List (List UInt8)} {K : List UInt8 → List UInt8} {p data : List UInt8} {ex : Bool} : entC (entK pc K (p, false, ex, data)) = [S (lastN p), .int .i64 2, .bool ex, S (keyN (fileN (pc data)))] := rfl

/-- Behind a round that has an entry more. -/
theorem dir_round {w w11 w12 : World} {x y z k n : Nat} {pc : List UInt8 → List (List UInt8)} {items : List Itm} {lv : Value} {o o4 : List Snp} {d : List UInt8} {qa ea : Option Addr} {qc ec g' cap' : Nat} {it : Itm} {new : List Value} {tmp : Obj}
    (hk : k < items.length) (hin : inD (items.take (k + 1)) d = inD (items.take k) d ++ [it]) (hent : entC (entK pc (fun p => keyN (dirN pc items n p)) it) = new) (ho : o4 = someO pc items n o (inD (items.take (k + 1)) d)) (hg : OGot w w11 lv o (.slice qa o4.length qc) o4)
    (hpb : w11.heap[w.heap.size]? = some (.cells #[.int .i64 (x : Nat), .int .i64 (y : Nat), .int .i64 (z : Nat)] 51 (0, 0)))
    (hnb : w11.heap[w.heap.size + 1]? = some (.cells #[.int .i64 3, .string ⟨#[]⟩, .slice none 0 0, .slice ea (inD (items.take k) d).length ec] 36 (0, 0)))
    (her : w11.ownsRow (w.heap.size + 2) 82 4 (.slice ea (inD (items.take k) d).length ec) (inD (items.take k) d).length (((inD (items.take k) d).map (entK pc fun p => keyN (dirN pc items n p))).flatMap entC)) (hB : Below w.heap.size w w11)
    (hown' : w12.ownsRow (w.heap.size + 2) 82 4 (.slice (some ⟨g', 0, none⟩) ((inD (items.take k) d).length + 1) cap') ((inD (items.take k) d).length + 1) (((inD (items.take k) d).map (entK pc fun p => keyN (dirN pc items n p))).flatMap entC ++ new))
    (hgrow : (w11.alloc tmp).grownBy w12 (Value.slice ea (inD (items.take k) d).length ec).ownBlock) :
    Hid (w12.heap[w.heap.size + 1]? = some (.cells #[.int .i64 3, .string ⟨#[]⟩, .slice none 0 0, .slice ea (inD (items.take k) d).length ec] 36 (0, 0))) ∧
      Hid (DirI w x y z pc items n lv o d (.slice qa o4.length qc) (.int .i64 ((k : Int) + 1)) (w12.setCell ⟨w.heap.size + 1, 3, none⟩ (.slice (some ⟨g', 0, none⟩) ((inD (items.take k) d).length + 1) cap'))) := by
  have hne : ∀ j, (Value.slice ea (inD (items.take k) d).length ec).ownBlock = some j → w.heap.size + 2 ≤ j := fun j hj => (her.lt j hj).1
  have hold : ∀ j, j < w11.heap.size → some j ≠ (Value.slice ea (inD (items.take k) d).length ec).ownBlock → w12.heap[j]? = w11.heap[j]? := fun j hj hn => (hgrow.block j (by rw [World.size_alloc]; omega) hn).trans (Below.heap_alloc _ _ _ hj)
  have hnb2 := (hold _ (heap_lt hnb) (fun e => by have := hne _ e.symm; omega)).trans hnb
  have hpb2 := (hold _ (heap_lt hpb) (fun e => by have := hne _ e.symm; omega)).trans hpb
  have hB2 : Below w.heap.size w w12 := (hB.alloc hB.size _).grown hgrow (by rw [World.size_alloc]; have := hB.size; omega) (fun j hj => by have := hne j hj; omega)
  have hg2 : OGot w w12 lv o (.slice qa o4.length qc) o4 := by
    rcases her.2 with ⟨h, _⟩ | ⟨gg, cap, cur, h, _, hgg, _⟩
    · exact hg.imp id fun h5 => own_block2 h5 fun j hj => hold j (h5.lt j hj).2 (by rw [h]; simp [Value.ownBlock])
    · exact hg.type hgg (by decide) (fun j hj hlt => hold j hlt (by rw [h]; simp [Value.ownBlock]; exact hj))
  have hlen : (inD (items.take (k + 1)) d).length = (inD (items.take k) d).length + 1 := by rw [hin]; simp
  refine ⟨Lib.hid hnb2, Lib.hid ⟨k + 1, o4, qa, qc, some ⟨g', 0, none⟩, cap', by omega, by go_num, rfl, Lib.hid (hg2.type hnb2 (by decide) (fun j hj _ => Below.heap_setCell _ _ _ _ hj)), Lib.hid ho, ?_, ?_, ?_, Lib.hid (hB2.setCell (p := ⟨w.heap.size + 1, 3, none⟩) (by show w.heap.size ≤ w.heap.size + 1; omega) _)⟩⟩
  · exact (Below.heap_setCell _ _ _ _ (show w.heap.size ≠ w.heap.size + 1 by omega)).trans hpb2
  · rw [hlen]; exact heap_set_cell (o := 3) hnb2 _
  · rw [hin, List.map_append, List.flatMap_append, List.length_append]
    refine Lib.hid (own_cell ?_ (by omega) _ _)
    rw [show [it].length = 1 from rfl, show (List.map (entK pc fun p => keyN (dirN pc items n p)) [it]).flatMap entC = new by simp [hent]]
    exact hown'

set_option maxHeartbeats 8000000 in
set_option maxRecDepth 100000 in
theorem rdir12_walk (x k y z : Nat) (iv : Value) (items : List Itm) (hf : FitC x k z) (hpk : 2 ^ k = y) (hrd : Ready (piecesC x k z) items) :
    ∀ (n deep : Nat) (lv : Value) (o : List Snp) (d : List UInt8) (w : World), ItRow w iv items → SnpRow w lv o → n + deep = 9 → deepD d = deep → DirOf items d → Among (keysT (piecesC x k z) items) o →
    Calls Tryz.prog 50 #[PrmV x y z, iv, lv, S d, .int .i64 deep] w fun e w' => ∃ v', e = .returned (.tuple #[v', S (keyN (dirN (piecesC x k z) items n d))]) ∧ OGot w w' lv o v' (dirO (piecesC x k z) items n o d) ∧ Below w.heap.size w w' := by
  intro n
  induction n with
  | zero =>
    intro deep lv o d w _ _ hn hdp hdir _
    exfalso
    rcases hdir with rfl | ⟨x, hx, rfl⟩
    · simp [deepD] at hdp; omega
    · have := (deep_step (hrd.item hx).1).2; omega
  | succ n ih =>
    intro deep lv o d w hir hl hn hdp hdir ham
    have IH := ih (deep + 1)
    clear ih
    have CF := fun (lv : Value) (o : List Snp) (data : List UInt8) (W : World) (hl : SnpRow W lv o) (h1 : o.length ≤ 900000) (h2 : data.length ≤ 32768) (h3 : (piecesC x k z data).length ≤ 1024) => rfile12_walk x k y z lv o data W hf hpk hl h1 h2 h3
    obtain ⟨pc, hpc⟩ : ∃ pc, piecesC x k z = pc := ⟨_, rfl⟩
    simp only [hpc] at IH CF hrd ham ⊢
    obtain ⟨i0, hi, hz0, hz1, hz2⟩ := info_parts infoEnt
    have HL := Lib.hid hl
    have HIR := Lib.hid hir
    obtain ⟨la, lc, rfl, -⟩ := hl
    obtain ⟨ia, ic, rfl, hic, him, hix⟩ := hir
    have HIX := Lib.hid hix
    have hd8 : deep ≤ 8 := by omega
    have hlen := hrd.fit.len
    obtain ⟨w1, hw1, hb1, hp1, hs1⟩ : ∃ w1, w1 = w.alloc (.cells #[.int .i64 (x : Nat), .int .i64 (y : Nat), .int .i64 (z : Nat)] 51) ∧ Below w.heap.size w w1 ∧ w1.heap[w.heap.size]? = some (.cells #[.int .i64 (x : Nat), .int .i64 (y : Nat), .int .i64 (z : Nat)] 51 (0, 0)) ∧ w1.heap.size = w.heap.size + 1 :=
      ⟨_, rfl, (Below.refl _ _).alloc (Nat.le_refl _) _, heap_alloc_new _ _, by simp⟩
    obtain ⟨w2, hw2, hb2, hn2, hs2⟩ : ∃ w2, w2 = w1.alloc (.cells #[.int .i64 3, .string ⟨#[]⟩, .slice none 0 0, .slice none 0 0] 36) ∧ Below w1.heap.size w1 w2 ∧ w2.heap[w.heap.size + 1]? = some (.cells #[.int .i64 3, .string ⟨#[]⟩, .slice none 0 0, .slice none 0 0] 36 (0, 0)) ∧ w2.heap.size = w.heap.size + 2 :=
      ⟨_, rfl, (Below.refl _ _).alloc (Nat.le_refl _) _, by rw [← hs1]; exact heap_alloc_new _ _, by rw [World.size_alloc, hs1]⟩
    have HP2 := Lib.hid ((hb2.block _ (heap_lt hp1)).trans hp1)
    have HB2 := Lib.hid (below_chain hb1 hb2 hb1.size)
    have HN2 := Lib.hid hn2
    have HRD := Lib.hid hrd
    have HAM := Lib.hid ham
    have HND := Lib.hid (show n + 1 + deepD d = 9 by omega)
    have HDP := Lib.hid hdp
    clear hn2 hp1 hix hf hpk hpc hrd ham hdir hn hdp hb1
    go_enter Tryz.func50, Tryz.ntmps50
    go_upto_region 1 with fail
    rw [← hw1]
    clear hw1
    go_upto_region 2 with fail
    rw [← hw2]
    clear hw2 hs1 hb2
    go_wp2
    go_loopw [2, 13] (fun v i wr => DirI w x y z pc items n (.slice la o.length lc) o d v i wr) (fun _ i _ => items.length - (intOf i).toNat)
    case atStart => exact ⟨0, o, la, lc, none, 0, Nat.zero_le _, rfl, rfl, Lib.hid (.inl ⟨rfl, rfl⟩), Lib.hid rfl, HP2.out, HN2.out, Lib.hid (World.ownsRow_nil _ _ _ _), HB2⟩
    case round =>
      obtain ⟨k, o', la', lc', ea, ec, hk, rfl, rfl, HG, HO, hpb, hnb, HER, HB⟩ := hrel
      have HLW := Lib.hid (HG.out.row HL.out HB.out)
      have HSZ := Lib.hid (heap_lt hnb)
      have HAO := Lib.hid (show Among (keysT pc items) o' by rw [HO.out]; exact someO_among HRD.out HND.out _ o (inD_take k) HAM.out)
      have hol : o'.length ≤ 70000 := Nat.le_trans HAO.out.len HRD.out.keys_len
      have hel := inD_len items d k
      clear HP2 HN2 HB2
      by_cases h1 : k < items.length
      · have h1' : (k : Int) < (items.length : Int) := by omega
        have hix := HIX.out
        rcases hix with hix | ⟨ib, io, rfl, hix⟩
        · exfalso; rw [hix] at h1; simp at h1
        obtain ⟨m0, m1, m2, m3⟩ := it_cells hix h1
        have e0 := cell_below HB.out m0
        have e1 := cell_below HB.out m1
        have e2 := cell_below HB.out m2
        have e3 := cell_below HB.out m3
        have HST := Lib.hid (inD_step (d := d) h1)
        have hmem : items[k] ∈ items := List.getElem_mem h1
        obtain ⟨hfit, hodd, hdl, -⟩ := HRD.out.item hmem
        have HFEW := Lib.hid (HRD.out.few _ hmem)
        have HMEM := Lib.hid hmem
        have HFIT := Lib.hid hfit
        clear hix m0 m1 m2 m3 hmem hfit hodd
        generalize items[k] = it at *
        obtain ⟨p, isd, ex, data⟩ := it
        simp only at e0 e1 e2 e3 hdl
        have hpl : p.length ≤ 1100000 := by
          obtain ⟨q1, q2, q3⟩ := fit_parts (show fitB p = true from HFIT.out)
          have := joinS_len (partsL p) (List.all_eq_true.2 q2)
          rw [joinS_parts] at this
          omega
        obtain ⟨w3, hw3, hb3, hx3⟩ : ∃ w3, w3 = wr.alloc (.cells #[S p, .bool isd, .bool ex, S data] 65) ∧ Below wr.heap.size wr w3 ∧ w3.heap[wr.heap.size]? = some (.cells #[S p, .bool isd, .bool ex, S data] 65 (0, 0)) :=
          ⟨_, rfl, (Below.refl _ _).alloc (Nat.le_refl _) _, heap_alloc_new _ _⟩
        have CD := rdir_walk p w3 hpl
        have CS := fun W => rsplit_walk p W hpl
        obtain ⟨⟨b0, b1, b2, b3⟩, -, -⟩ := box4 hx3
        go_upto_region 6 with fail
        rw [← hw3]
        clear hw3
        go_wp2_with fail
        refine CD.mono ?_
        rintro e w4 ⟨rfl, hb4⟩
        have HB4 := Lib.hid (hb3.trans (hb4.mono hb3.size))
        by_cases hdd : dirL p = d
        case neg =>
          have hne : (dirL p == d) = false := by rw [beq_eq_false_iff_ne]; exact hdd
          have HIN := Lib.hid (show inD (items.take (k + 1)) d = inD (items.take k) d from HST.out.trans (if_neg hdd))
          generalize dirL p = dp at *
          clear hdd b0 b1 b2 b3 CD CS e0 e1 e2 e3
          go_wp2
          go_roundw
          case rel => exact ⟨k + 1, o', la', lc', ea, ec, by omega, by go_num, rfl, Lib.hid (HG.out.below HB4.out), Lib.hid (by rw [HIN.out]; exact HO.out), (HB4.out.block _ (heap_lt hpb)).trans hpb, by rw [HIN.out]; exact (HB4.out.block _ (heap_lt hnb)).trans hnb, by rw [HIN.out]; exact Lib.hid (own_on HER.out HB4.out), Lib.hid (below_chain HB.out HB4.out HB.out.size)⟩
          case measure => simp [intOf]; omega
        have hne : (dirL p == d) = true := by rw [beq_iff_eq]; exact hdd
        have HIN := Lib.hid (show inD (items.take (k + 1)) d = inD (items.take k) d ++ [(p, isd, ex, data)] from HST.out.trans (if_pos hdd))
        have HDK := Lib.hid (show deepD p = deep + 1 by have := (deep_step (show fitB p = true from HFIT.out)).1; rw [hdd, HDP.out] at this; exact this)
        generalize dirL p = dp at *
        clear hdd
        have CS4 := CS w4
        have hx4 := (hb4.block _ (heap_lt hx3)).trans hx3
        obtain ⟨⟨c0, c1, c2, c3⟩, -, -⟩ := box4 hx4
        clear CD CS b0 b1 b2 b3 hx3 hb3 hb4
        go_wp2_with fail
        refine CS4.mono ?_
        rintro e w5 ⟨nv, rfl, hnr, hb5⟩
        have hsp : splitL p = partsL p := splitL_fit HFIT.out
        obtain ⟨m, hm⟩ : ∃ m, (splitL p).length = m + 1 := ⟨(splitL p).length - 1, by have := splitL_pos HFIT.out; omega⟩
        have hln : (splitL p)[m]? = some (lastN p) := by
          unfold lastN
          rw [hsp] at hm ⊢
          rw [List.getLastD_eq_getLast?, List.getLast?_eq_getElem?, hm, show m + 1 - 1 = m from rfl]
          rw [List.getElem?_eq_getElem (by omega)]; rfl
        obtain ⟨na, nc, rfl, -, -, hnx⟩ := hnr
        rw [hm]
        rcases hnx with hnx | ⟨g, no, rfl, hnx⟩
        · exfalso; rw [hnx] at hm; simp at hm
        have n0 := hnx m _ hln
        have hm8 : m ≤ 7 := by have := splitL_le p; omega
        have hmw : IntKind.i64.wrap (m : Int) = (m : Int) := by rw [IntKind.wrap_i64]; omega
        have hm2 : (m : Int) + 1 - 1 = (m : Int) := by omega
        have hm3 : (m : Int) < (m : Int) + 1 := by omega
        obtain ⟨ln, hlne⟩ : ∃ ln, lastN p = ln := ⟨_, rfl⟩
        have HLN := Lib.hid hlne
        rw [hlne] at n0
        clear hnx hln hm hsp hlne
        obtain ⟨w6, hw6, hx6, n6, HB6⟩ : ∃ w6 : World, w6 = { w5 with drawn := w5.drawn + 1 } ∧ w6.heap[wr.heap.size]? = some (.cells #[S p, .bool isd, .bool ex, S data] 65 (0, 0)) ∧ w6.cell? ⟨g, no + m, none⟩ = some (S ln) ∧ Hid (Below wr.heap.size wr w6) :=
          ⟨_, rfl, (hb5.block _ (heap_lt hx4)).trans hx4, n0, Lib.hid (HB4.out.trans ((hb5.trans (⟨rfl, rfl, rfl, Nat.le_refl _, fun _ _ => rfl⟩ : Below w4.heap.size w5 { w5 with drawn := w5.drawn + 1 })).mono HB4.out.size))⟩
        clear CS4 c0 c1 c2 c3 hx4 hb5 n0
        go_upto_region 8 with fail
        (refine wp_region_held (S := fun w' => w'.cell? ⟨g, no + m, none⟩ = some (S ln) ∧ w'.cell? ⟨wr.heap.size, 2, none⟩ = some (.bool ex)) (by kernel_rfl) ?_)
        rw [← hw6]
        clear hw6
        obtain ⟨⟨c0, c1, c2, c3⟩, -, -⟩ := box4 hx6
        (refine wpAnyH_take (i := 0) (v := ?_) rfl (by kernel_rfl) (by kernel_rfl) (by kernel_rfl) (fun _ _ _ h => h) (Or.inl ⟨by rfl, ?_⟩) (by exact ⟨n6, c2⟩) ?_; rotate_left; (intro w9 hS9; skip; go_simp; try with_reducible rfl))
        (refine wpAnyH_take (i := 1) (v := ?_) rfl (by kernel_rfl) (by kernel_rfl) (by kernel_rfl) (fun _ _ _ h => h) (Or.inl ⟨by rfl, ?_⟩) (by exact ⟨n6, c2⟩) ?_; rotate_left; (intro w9 hS9; skip; go_simp; try with_reducible rfl))
        (refine wpAnyH_take (i := 2) (v := ?_) rfl (by kernel_rfl) (by kernel_rfl) (by kernel_rfl) (fun _ _ _ h => h) (Or.inl ⟨by rfl, ?_⟩) (by exact ⟨n6, c2⟩) ?_; rotate_left; (intro w9 hS9; skip; go_simp; try with_reducible rfl))
        (refine wpAnyH_take (i := 3) (v := ?_) rfl (by kernel_rfl) (by kernel_rfl) (by kernel_rfl) (fun _ _ _ h => h) (Or.inl ⟨by rfl, ?_⟩) (by exact ⟨n6, c2⟩) ?_; rotate_left; (intro w9 hS9; skip; go_simp; try with_reducible rfl))
        (refine wpAnyH_take (i := 4) (v := ?_) rfl (by kernel_rfl) (by kernel_rfl) (by kernel_rfl) (fun _ _ _ h => h) (Or.inl ⟨by rfl, ?_⟩) (by exact ⟨n6, c2⟩) ?_; rotate_left; (intro w9 hS9; skip; go_simp; try with_reducible rfl))
        (refine wpAnyH_take (i := 5) (v := ?_) rfl (by kernel_rfl) (by kernel_rfl) (by kernel_rfl) (fun _ _ _ h => h) (Or.inl ⟨by rfl, ?_⟩) (by exact ⟨n6, c2⟩) ?_; rotate_left; (intro w9 hS9; (replace hS9 : w9.cell? ⟨g, no + m, none⟩ = some (S ln) := hS9.1); go_simp; try with_reducible rfl))
        (refine wpAnyH_take (i := 6) (v := ?_) rfl (by kernel_rfl) (by kernel_rfl) (by kernel_rfl) (fun _ _ _ h => h) (Or.inl ⟨by rfl, ?_⟩) (by exact ⟨n6, c2⟩) ?_; rotate_left; (intro w9 hS9; skip; go_simp; try with_reducible rfl))
        (refine wpAnyH_take (i := 7) (v := ?_) rfl (by kernel_rfl) (by kernel_rfl) (by kernel_rfl) (fun _ _ _ h => h) (Or.inl ⟨by rfl, ?_⟩) (by exact ⟨n6, c2⟩) ?_; rotate_left; (intro w9 hS9; (replace hS9 : w9.cell? ⟨wr.heap.size, 2, none⟩ = some (.bool ex) := hS9.2); go_simp; try with_reducible rfl))
        (refine wpAnyH_take (i := 8) (v := ?_) rfl (by kernel_rfl) (by kernel_rfl) (by kernel_rfl) (fun _ _ _ h => h) (Or.inl ⟨by rfl, ?_⟩) (by exact ⟨n6, c2⟩) ?_; rotate_left; (intro w9 hS9; skip; go_simp; try with_reducible rfl))
        obtain ⟨w7, hw7, hs7, he7, n7, hx7, HB7⟩ : ∃ w7, w7 = w6.alloc (.cells #[.string ⟨#[]⟩, .int .i64 0, .bool false, .string ⟨#[]⟩] 82) ∧ w7.heap.size = w6.heap.size + 1 ∧ w7.heap[w6.heap.size]? = some (.cells #[.string ⟨#[]⟩, .int .i64 0, .bool false, .string ⟨#[]⟩] 82 (0, 0)) ∧ w7.cell? ⟨g, no + m, none⟩ = some (S ln) ∧ w7.heap[wr.heap.size]? = some (.cells #[S p, .bool isd, .bool ex, S data] 65 (0, 0)) ∧ Hid (Below wr.heap.size wr w7) :=
          ⟨_, rfl, by simp, heap_alloc_new _ _, cell_old n6 _, (Below.heap_alloc _ _ _ (heap_lt hx6)).trans hx6, Lib.hid (HB6.out.alloc HB6.out.size _)⟩
        have HS6 := Lib.hid (show wr.heap.size < w6.heap.size from heap_lt hx6)
        have HS6g := Lib.hid (show g < w6.heap.size from lt_of_cell n6)
        obtain ⟨e, hee⟩ : ∃ e, w6.heap.size = e := ⟨_, rfl⟩
        obtain ⟨⟨d0, d1, d2, d3⟩, -, -⟩ := box4 hx7
        (refine wpAnyH_one (i := 9) (by kernel_rfl) rfl (fun K hK => ?_); go_simp; refine hK _ _ (⟨by rw [← hw7]; exact n7, by rw [← hw7]; exact d2⟩) ?_; clear hK K)
        rw [← hw7]
        rw [hee] at he7 hs7 HS6 HS6g
        clear hw7 c0 c1 c2 c3 n6 hx6 hee
        obtain ⟨⟨t0, t1, t2, t3⟩, ⟨f0, f1, f2, f3⟩, ⟨r0, r1, r2, r3⟩⟩ := box4 he7
        obtain ⟨w8, hw8, he8, n8, hx8, HB8⟩ : ∃ w8, w8 = (((w7.setCell ⟨e, 0, none⟩ (S ln)).setCell ⟨e, 1, none⟩ (.int .i64 2)).setCell ⟨e, 2, none⟩ (.bool ex)).setCell ⟨e, 3, none⟩ (.string ⟨#[]⟩) ∧ w8.heap[e]? = some (.cells #[S ln, .int .i64 2, .bool ex, .string ⟨#[]⟩] 82 (0, 0)) ∧ w8.cell? ⟨g, no + m, none⟩ = some (S ln) ∧ w8.heap[wr.heap.size]? = some (.cells #[S p, .bool isd, .bool ex, S data] 65 (0, 0)) ∧ Hid (Below wr.heap.size wr w8) := by
          have hg := HS6g.out
          have hw := HS6.out
          have hk4 : ∀ (b : Nat), b ≠ e → ((((w7.setCell ⟨e, 0, none⟩ (S ln)).setCell ⟨e, 1, none⟩ (.int .i64 2)).setCell ⟨e, 2, none⟩ (.bool ex)).setCell ⟨e, 3, none⟩ (.string ⟨#[]⟩)).heap[b]? = w7.heap[b]? := fun b hb =>
            (Below.heap_setCell _ _ _ _ hb).trans ((Below.heap_setCell _ _ _ _ hb).trans ((Below.heap_setCell _ _ _ _ hb).trans (Below.heap_setCell _ _ _ _ hb)))
          exact ⟨_, rfl, heap_set_cell (o := 3) (heap_set_cell (o := 2) (heap_set_cell (o := 1) (heap_set_cell (o := 0) he7 _) _) _) _, (World.cell?_of_block (a := ⟨g, no + m, none⟩) (hk4 g (by omega))).trans n7, (hk4 _ (by omega)).trans hx7,
            Lib.hid (below_setT (below_setT (below_setT (below_setT HB7.out (by omega) _ _) (by omega) _ _) (by omega) _ _) (by omega) _ _)⟩
        have HN8 := Lib.hid n8
        have HE8 := Lib.hid he8
        obtain ⟨⟨d0, d1, d2, d3⟩, -, -⟩ := box4 hx8
        (refine wpAnyH_one (i := 10) (by kernel_rfl) rfl (fun K hK => ?_); go_simp; refine hK _ _ ((by rw [← hw8]; exact ⟨HN8.out, d2⟩)) ?_; clear hK K)
        rw [← hw8]
        clear hw8 hx7 n7 n8 t0 t1 t2 t3 f0 f1 f2 f3 r0 r1 r2 r3 he7
        (refine wpAnyH_done (by kernel_rfl) ?_ _)
        have HX8 := Lib.hid hx8
        have pb8 := (HB8.out.block _ (heap_lt hpb)).trans hpb
        have HEW := Lib.hid (show w.heap.size + 2 ≤ e by have := HS6.out; have := HSZ.out; omega)
        obtain ⟨p0, p1, p2⟩ : w8.cell? ⟨w.heap.size, 0, none⟩ = some (.int .i64 (x : Nat)) ∧ w8.cell? ⟨w.heap.size, 1, none⟩ = some (.int .i64 (y : Nat)) ∧ w8.cell? ⟨w.heap.size, 2, none⟩ = some (.int .i64 (z : Nat)) := ⟨heap_cell pb8 (j := 0) rfl, heap_cell pb8 (j := 1) rfl, heap_cell pb8 (j := 2) rfl⟩
        cases isd with
        | true =>
          have HO4 := Lib.hid (show dirO pc items n o' p = someO pc items n o (inD (items.take (k + 1)) d) by rw [HIN.out, someO_snoc, ← HO.out]; rfl)
          have HENT := Lib.hid (show entC (entK pc (fun p => keyN (dirN pc items n p)) (p, true, ex, data)) = [S (lastN p), .int .i64 3, .bool ex, S (keyN (dirN pc items n p))] from entK_dir)
          rw [HLN.out] at HENT
          obtain ⟨⟨t0, t1, t2, t3⟩, ⟨f0, f1, f2, f3⟩, ⟨r0, r1, r2, r3⟩⟩ := box4 he8
          obtain ⟨w9, hw9, he9, hx9, HB9, pb9⟩ : ∃ w9, w9 = w8.setCell ⟨e, 1, none⟩ (.int .i64 3) ∧ w9.heap[e]? = some (.cells #[S ln, .int .i64 3, .bool ex, .string ⟨#[]⟩] 82 (0, 0)) ∧ w9.heap[wr.heap.size]? = some (.cells #[S p, .bool true, .bool ex, S data] 65 (0, 0)) ∧ Hid (Below wr.heap.size wr w9) ∧ w9.heap[w.heap.size]? = some (.cells #[.int .i64 (x : Nat), .int .i64 (y : Nat), .int .i64 (z : Nat)] 51 (0, 0)) :=
            ⟨_, rfl, heap_set_cell (o := 1) he8 _, (Below.heap_setCell _ _ _ _ (show wr.heap.size ≠ e by have := HS6.out; omega)).trans hx8, Lib.hid (below_setT HB8.out (by have := HS6.out; omega) _ _), (Below.heap_setCell _ _ _ _ (show w.heap.size ≠ e by have := HEW.out; omega)).trans pb8⟩
          have CI := IH (.slice la' o'.length lc') o' p w9 (HIR.out.below (below_chain HB.out HB9.out HB.out.size)) (HLW.out.below HB9.out) (by have := HND.out; have := HDP.out; omega) HDK.out (.inr ⟨_, HMEM.out, rfl⟩) HAO.out
          rw [show ((deep + 1 : Nat) : Int) = (deep : Int) + 1 by omega] at CI
          go_upto_region 11 with fail
          rw [← hw9]
          clear hw9 d0 d1 d2 d3 t0 t1 t2 t3 f0 f1 f2 f3 r0 r1 r2 r3 p0 p1 p2
          obtain ⟨⟨d0, d1, d2, d3⟩, -, -⟩ := box4 hx9
          obtain ⟨⟨t0, t1, t2, t3⟩, ⟨f0, f1, f2, f3⟩, ⟨r0, r1, r2, r3⟩⟩ := box4 he9
          obtain ⟨p0, p1, p2⟩ : w9.cell? ⟨w.heap.size, 0, none⟩ = some (.int .i64 (x : Nat)) ∧ w9.cell? ⟨w.heap.size, 1, none⟩ = some (.int .i64 (y : Nat)) ∧ w9.cell? ⟨w.heap.size, 2, none⟩ = some (.int .i64 (z : Nat)) := ⟨heap_cell pb9 (j := 0) rfl, heap_cell pb9 (j := 1) rfl, heap_cell pb9 (j := 2) rfl⟩
          go_wp2_with fail
          refine CI.mono ?_
          rintro e9 w10 ⟨v10, rfl, hg10, hb10⟩
          clear d0 d1 d2 d3 t0 t1 t2 t3 f0 f1 f2 f3 r0 r1 r2 r3 p0 p1 p2 CI
          have HR10 := Lib.hid (hg10.row (HLW.out.below HB9.out) hb10)
          obtain ⟨qa, qc, rfl⟩ := row_slice HR10.out
          have he10 := (hb10.block _ (heap_lt he9)).trans he9
          have HB10 := Lib.hid (below_chain HB9.out hb10 HB9.out.size)
          have HG10 := Lib.hid (HG.out.trans (show OGot wr w10 (.slice la' o'.length lc') o' (.slice qa (dirO pc items n o' p).length qc) (dirO pc items n o' p) from hg10.imp id fun h => own_base h HB9.out.size) HB10.out HB.out.size)
          obtain ⟨o4, ho4⟩ : ∃ o4, dirO pc items n o' p = o4 := ⟨_, rfl⟩
          rw [ho4] at HG10 HO4 ⊢
          clear ho4 HR10
          obtain ⟨w11, hw11, he11, pb11, nb11, HER11, HG11, HB11⟩ : ∃ w11, w11 = w10.setCell ⟨e, 3, none⟩ (S (keyN (dirN pc items n p))) ∧ w11.heap[e]? = some (.cells #[S ln, .int .i64 3, .bool ex, S (keyN (dirN pc items n p))] 82 (0, 0)) ∧ w11.heap[w.heap.size]? = some (.cells #[.int .i64 (x : Nat), .int .i64 (y : Nat), .int .i64 (z : Nat)] 51 (0, 0)) ∧ w11.heap[w.heap.size + 1]? = some (.cells #[.int .i64 3, .string ⟨#[]⟩, .slice none 0 0, .slice ea (inD (items.take k) d).length ec] 36 (0, 0)) ∧ Hid (w11.ownsRow (w.heap.size + 2) 82 4 (.slice ea (inD (items.take k) d).length ec) (inD (items.take k) d).length (((inD (items.take k) d).map (entK pc fun p => keyN (dirN pc items n p))).flatMap entC)) ∧ Hid (OGot w w11 (.slice la o.length lc) o (.slice qa o4.length qc) o4) ∧ Hid (Below w.heap.size w w11) := by
            have h6 := HS6.out
            have hew := HEW.out
            have hk : ∀ b, b ≠ e → (w10.setCell ⟨e, 3, none⟩ (S (keyN (dirN pc items n p)))).heap[b]? = w10.heap[b]? := fun b hb => Below.heap_setCell _ _ _ _ hb
            refine ⟨_, rfl, heap_set_cell (o := 3) he10 _, (hk _ (by omega)).trans ((HB10.out.block _ (heap_lt hpb)).trans hpb), (hk _ (by omega)).trans ((HB10.out.block _ (heap_lt hnb)).trans hnb), Lib.hid (own_block2 (own_on HER.out HB10.out) fun j hj => hk j (by have := (HER.out.lt j hj).2; omega)), Lib.hid (HG10.out.type he10 (by decide) (fun j hj _ => hk j hj)), Lib.hid (below_setT (below_chain HB.out HB10.out HB.out.size) (by omega) _ _)⟩
          clear hb10 hg10 HG10
          obtain ⟨⟨t0, t1, t2, t3⟩, ⟨f0, f1, f2, f3⟩, ⟨r0, r1, r2, r3⟩⟩ := box4 he10
          have hcnt4 : (inD (items.take k) d).length ≤ 60 := by omega
          go_upto_region 13 with fail
          rw [← hw11]
          clear hw11 t0 t1 t2 t3 f0 f1 f2 f3 r0 r1 r2 r3 he10
          obtain ⟨⟨z0, z1, z2, z3⟩, ⟨y0, y1, y2, y3⟩, ⟨x0, x1, x2, x3⟩⟩ := box4 nb11
          obtain ⟨⟨q0, q1, q2, q3⟩, -, -⟩ := box4 he11
          go_wp2_with (at_builtin; refine wpList_append_own _ rfl _ _ 34 rfl (w.heap.size + 2) 82 i0 (.agg #[.string ⟨#[]⟩, .int .i64 0, .bool false, .string ⟨#[]⟩]) 4 48 Tryz.underlying34 hi hz0 hz1 hz2 rfl (by decide) _ _ _ rfl (HER11.out.alloc _) ⟨w11.heap.size, 0, none⟩ 1 1 [S ln, .int .i64 3, .bool ex, S (keyN (dirN pc items n p))] rfl rfl ?c1 ?c2 ?c3 ?c4 ?c5 ?_)
          case c1 => exact new_cells4 _ _ _ _ _ _
          case c2 => intro u hu; simp at hu; rcases hu with rfl | rfl | rfl | rfl <;> rfl
          case c3 => unfold maxLen; omega
          case c4 => omega
          case c5 => simp; have := heap_lt nb11; omega
          intro v' w12 hown' hgrow _
          obtain ⟨g', cap', rfl⟩ := ownsRow_succ hown'
          obtain ⟨HNB, HEND⟩ := dir_round (x := x) (y := y) (z := z) (it := (p, true, ex, data)) (pc := pc) (n := n) h1 HIN.out HENT.out HO4.out HG11.out pb11 nb11 HER11.out HB11.out hown' hgrow
          clear hown' hgrow z0 z1 z2 z3 y0 y1 y2 y3 x0 x1 x2 x3 nb11 pb11
          obtain ⟨⟨z0, z1, z2, z3⟩, ⟨y0, y1, y2, y3⟩, ⟨x0, x1, x2, x3⟩⟩ := box4 HNB.out
          go_wp2
          go_roundw
          case rel => exact HEND.out
          case measure => simp [intOf]; omega
        | false =>
          have HO4 := Lib.hid (show fileO o' (pc data) = someO pc items n o (inD (items.take (k + 1)) d) by rw [HIN.out, someO_snoc, ← HO.out]; rfl)
          have HENT := Lib.hid (show entC (entK pc (fun p => keyN (dirN pc items n p)) (p, false, ex, data)) = [S (lastN p), .int .i64 2, .bool ex, S (keyN (fileN (pc data)))] from entK_file)
          rw [HLN.out] at HENT
          have CI := CF (.slice la' o'.length lc') o' data w8 (HLW.out.below HB8.out) (by omega) hdl HFEW.out
          go_upto_region 12 with fail
          go_wp2_with fail
          refine CI.mono ?_
          rintro e9 w10 ⟨v10, rfl, hg10, hb10⟩
          clear d0 d1 d2 d3 p0 p1 p2 CI
          have HR10 := Lib.hid (hg10.row (HLW.out.below HB8.out) hb10)
          obtain ⟨qa, qc, rfl⟩ := row_slice HR10.out
          have he10 := (hb10.block _ (heap_lt he8)).trans he8
          have HB10 := Lib.hid (below_chain HB8.out hb10 HB8.out.size)
          have HG10 := Lib.hid (HG.out.trans (show OGot wr w10 (.slice la' o'.length lc') o' (.slice qa (fileO o' (pc data)).length qc) (fileO o' (pc data)) from hg10.imp id fun h => own_base h HB8.out.size) HB10.out HB.out.size)
          obtain ⟨o4, ho4⟩ : ∃ o4, fileO o' (pc data) = o4 := ⟨_, rfl⟩
          rw [ho4] at HG10 HO4 ⊢
          clear ho4 HR10
          obtain ⟨w11, hw11, he11, pb11, nb11, HER11, HG11, HB11⟩ : ∃ w11, w11 = w10.setCell ⟨e, 3, none⟩ (S (keyN (fileN (pc data)))) ∧ w11.heap[e]? = some (.cells #[S ln, .int .i64 2, .bool ex, S (keyN (fileN (pc data)))] 82 (0, 0)) ∧ w11.heap[w.heap.size]? = some (.cells #[.int .i64 (x : Nat), .int .i64 (y : Nat), .int .i64 (z : Nat)] 51 (0, 0)) ∧ w11.heap[w.heap.size + 1]? = some (.cells #[.int .i64 3, .string ⟨#[]⟩, .slice none 0 0, .slice ea (inD (items.take k) d).length ec] 36 (0, 0)) ∧ Hid (w11.ownsRow (w.heap.size + 2) 82 4 (.slice ea (inD (items.take k) d).length ec) (inD (items.take k) d).length (((inD (items.take k) d).map (entK pc fun p => keyN (dirN pc items n p))).flatMap entC)) ∧ Hid (OGot w w11 (.slice la o.length lc) o (.slice qa o4.length qc) o4) ∧ Hid (Below w.heap.size w w11) := by
            have h6 := HS6.out
            have hew := HEW.out
            have hk : ∀ b, b ≠ e → (w10.setCell ⟨e, 3, none⟩ (S (keyN (fileN (pc data))))).heap[b]? = w10.heap[b]? := fun b hb => Below.heap_setCell _ _ _ _ hb
            refine ⟨_, rfl, heap_set_cell (o := 3) he10 _, (hk _ (by omega)).trans ((HB10.out.block _ (heap_lt hpb)).trans hpb), (hk _ (by omega)).trans ((HB10.out.block _ (heap_lt hnb)).trans hnb), Lib.hid (own_block2 (own_on HER.out HB10.out) fun j hj => hk j (by have := (HER.out.lt j hj).2; omega)), Lib.hid (HG10.out.type he10 (by decide) (fun j hj _ => hk j hj)), Lib.hid (below_setT (below_chain HB.out HB10.out HB.out.size) (by omega) _ _)⟩
          clear hb10 hg10 HG10
          obtain ⟨⟨t0, t1, t2, t3⟩, ⟨f0, f1, f2, f3⟩, ⟨r0, r1, r2, r3⟩⟩ := box4 he10
          have hcnt4 : (inD (items.take k) d).length ≤ 60 := by omega
          go_upto_region 13 with fail
          rw [← hw11]
          clear hw11 t0 t1 t2 t3 f0 f1 f2 f3 r0 r1 r2 r3 he10
          obtain ⟨⟨z0, z1, z2, z3⟩, ⟨y0, y1, y2, y3⟩, ⟨x0, x1, x2, x3⟩⟩ := box4 nb11
          obtain ⟨⟨q0, q1, q2, q3⟩, -, -⟩ := box4 he11
          go_wp2_with (at_builtin; refine wpList_append_own _ rfl _ _ 34 rfl (w.heap.size + 2) 82 i0 (.agg #[.string ⟨#[]⟩, .int .i64 0, .bool false, .string ⟨#[]⟩]) 4 48 Tryz.underlying34 hi hz0 hz1 hz2 rfl (by decide) _ _ _ rfl (HER11.out.alloc _) ⟨w11.heap.size, 0, none⟩ 1 1 [S ln, .int .i64 2, .bool ex, S (keyN (fileN (pc data)))] rfl rfl ?c1 ?c2 ?c3 ?c4 ?c5 ?_)
          case c1 => exact new_cells4 _ _ _ _ _ _
          case c2 => intro u hu; simp at hu; rcases hu with rfl | rfl | rfl | rfl <;> rfl
          case c3 => unfold maxLen; omega
          case c4 => omega
          case c5 => simp; have := heap_lt nb11; omega
          intro v' w12 hown' hgrow _
          obtain ⟨g', cap', rfl⟩ := ownsRow_succ hown'
          obtain ⟨HNB, HEND⟩ := dir_round (x := x) (y := y) (z := z) (it := (p, false, ex, data)) (pc := pc) (n := n) h1 HIN.out HENT.out HO4.out HG11.out pb11 nb11 HER11.out HB11.out hown' hgrow
          clear hown' hgrow z0 z1 z2 z3 y0 y1 y2 y3 x0 x1 x2 x3 nb11 pb11
          obtain ⟨⟨z0, z1, z2, z3⟩, ⟨y0, y1, y2, y3⟩, ⟨x0, x1, x2, x3⟩⟩ := box4 HNB.out
          go_wp2
          go_roundw
          case rel => exact HEND.out
          case measure => simp [intOf]; omega
      · have h1' : ¬ (k : Int) < (items.length : Int) := by omega
        obtain rfl : k = items.length := by omega
        rw [List.take_of_length_le (Nat.le_refl _)] at HO HER hnb
        have hnrow : NodRow wr (dirN pc items (n + 1) d) (.slice none 0 0) (.slice ea (inD items d).length ec) := by
          refine ⟨Row.nil _ _, Row.of_ownsK (f := entC) (K := 4) (base := w.heap.size + 2) (e := 82) (fun _ => rfl) ?_⟩
          show wr.ownsRow _ _ _ _ ((inD items d).map _).length _
          rw [List.length_map]; exact HER.out
        have hnl : ∀ e ∈ (dirN pc items (n + 1) d).ents, e.1.length ≤ 1100000 := by
          intro e he
          obtain ⟨q, hq, rfl⟩ := List.mem_map.1 he
          have := nameB_len (last_name (HRD.out.item (mem_inD.1 hq).1).1)
          show (lastN q.1).length ≤ _
          omega
        have hel2 : (inD items d).length ≤ 60 := by rw [List.take_of_length_le (Nat.le_refl _)] at hel; omega
        have CQ : Calls Tryz.prog 72 #[.slice la' o'.length lc', .agg #[.int .i64 3, .string ⟨#[]⟩, .slice none 0 0, .slice ea (inD items d).length ec]] wr _ := rput12b_walk (.slice la' o'.length lc') (.slice none 0 0) (.slice ea (inD items d).length ec) o' (dirN pc items (n + 1) d) wr HLW.out hnrow (by omega) (by simp [dirN]) (by simp [dirN]) (by simp [dirN]; omega) hnl
        have HE := Lib.hid (show addO o' (keyN (dirN pc items (n + 1) d), writeN (dirN pc items (n + 1) d)) = dirO pc items (n + 1) o d by rw [HO.out]; rfl)
        obtain ⟨⟨z0, z1, z2, z3⟩, -, -⟩ := box4 hnb
        clear hnrow hnl
        go_wp2_with fail
        refine CQ.mono ?_
        rintro e w4 ⟨v4, rfl, hr4, hg4, hb4⟩
        have HR4 := Lib.hid (HG.out.trans hg4 hb4 HB.out.size)
        have HB4 := Lib.hid (below_chain HB.out hb4 HB.out.size)
        clear hr4 hg4 hb4 CQ
        go_wp2
        go_ret2
        exact ⟨_, rfl, by rw [← HE.out]; exact HR4.out, HB4.out⟩
end Go.Proofs.YtaompdnnkfmjhaaGreatDoor
