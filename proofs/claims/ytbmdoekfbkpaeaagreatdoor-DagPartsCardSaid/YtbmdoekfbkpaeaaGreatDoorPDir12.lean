/- The program's objects of a directory. -/
import Derived.Test.YtbmdoekfbkpaeaaGreatDoorJDir
import Derived.Test.YtbmdoekfbkpaeaaGreatDoorJMapB
namespace Go.Proofs.YtbmdoekfbkpaeaaGreatDoor
open Go.RowKit
attribute [local go_sem] Oper.semAt_some

theorem cell_keep {w w' : World} {mb b o : Nat} {v : Value} {l : List Snp} (h : w.cell? ⟨b, o, none⟩ = some v) (hm : SMap w mb l) (hk : ∀ k, k < w.heap.size → k ≠ mb → w'.heap[k]? = w.heap[k]?) : w'.cell? ⟨b, o, none⟩ = some v := by
  refine (World.cell?_of_block (a := ⟨b, o, none⟩) (hk b (lt_of_cell h) ?_)).trans h
  rintro rfl
  obtain ⟨E, hE, _⟩ := hm
  unfold SMapE at hE
  simp [World.cell?, hE] at h
/-- What dir reads. -/
structure PCtx (w : World) (b mb x y z ic : Nat) (ia : Option Addr) (items : List Itm) : Prop where
  bld : BldP w b mb x y z ia items.length ic
  row : ItRow w (.slice ia items.length ic) items
  mx : Mx w
  tz : TzT w
theorem PCtx.keep {w w' : World} {b mb x y z ic : Nat} {ia : Option Addr} {items : List Itm} {l : List Snp} (h : PCtx w b mb x y z ic ia items) (hm : SMap w mb l) (hk : ∀ k, k < w.heap.size → k ≠ mb → w'.heap[k]? = w.heap[k]?) : PCtx w' b mb x y z ic ia items := by
  refine ⟨(hk b (heap_lt h.bld) (smap_not hm h.bld)).trans h.bld, ?_, ?_, fun k h1 h2 => cell_keep (h.tz k h1 h2) hm hk⟩
  · obtain ⟨a, c, hv, hc, hm1, hx⟩ := h.row
    exact ⟨a, c, hv, hc, hm1, hx.imp id fun ⟨g, o', ha, hx⟩ => ⟨g, o', ha, fun j y hj i u hu => cell_keep (hx j y hj i u hu) hm hk⟩⟩
  · obtain ⟨m, hm'⟩ := h.mx
    exact ⟨m, cell_keep hm' hm hk⟩

/-- Between two rounds of dir. -/
def PDirI (w : World) (b mb : Nat) (pc : List UInt8 → List (List UInt8)) (items : List Itm) (n : Nat) (o : List Snp) (pre : List Itm) (W : World) : Prop :=
  (W.heap[w.heap.size]? = some (.cells #[.pointer (some ⟨b, 0, none⟩)] 51 (0, 0)) ∧ SMap W mb (someO pc items n o pre)) ∧
  (∃ (ea : Option Addr) (ec : Nat), W.heap[w.heap.size + 1]? = some (.cells #[.int .i64 3, .string ⟨#[]⟩, .slice none 0 0, .slice ea pre.length ec] 40 (0, 0)) ∧
    W.ownsRow (w.heap.size + 4) 69 4 (.slice ea pre.length ec) pre.length ((pre.map (entK pc fun p => keyN (dirN pc items n p))).flatMap entC)) ∧ Gro mb w W ∧ w.heap.size + 4 ≤ W.heap.size
theorem gro_turns {w A B : World} {g N : Nat} {row : Option Nat} (h : Gro g w A) (hg : A.grownBy B row) (hr : ∀ r, row = some r → False ∨ (N ≤ r ∧ ∃ o : Obj, A.heap[r]? = some o ∧ o.isCells = false)) (hN : w.heap.size ≤ N) : Gro g w B :=
  ⟨hg.os.trans h.os, hg.tape.trans h.tape, hg.output.trans h.output, Nat.le_trans h.size hg.size, fun k hk hn => (hg.block k (by have := h.size; omega) (fun e => by rcases hr k e.symm with h | ⟨h, _⟩; exact h; omega)).trans (h.block k hk hn)⟩
theorem pdirI_bides (w : World) (b mb : Nat) (pc : List UInt8 → List (List UInt8)) (items : List Itm) (n : Nat) (o : List Snp) (N : Nat) (hN : w.heap.size + 4 ≤ N) (hmb : mb < w.heap.size) : Bides (fun _ => False) N (PDirI w b mb pc items n o) := by
  rintro pre A B row ⟨⟨h1, h2⟩, ⟨ea, ec, h3, h4⟩, h5, h6⟩ hg hr
  have hblk : ∀ k, k < N → B.heap[k]? = A.heap[k]? ∨ A.heap.size ≤ k := fun k hk => by
    by_cases hl : k < A.heap.size
    · exact .inl (hg.block k hl (fun e => by rcases hr k e.symm with h | ⟨h, _⟩; exact h; omega))
    · exact .inr (by omega)
  refine ⟨⟨box_turn h1 hg hr (by omega), h2.block ((hblk mb (by omega)).resolve_right (by have := h2.lt; omega))⟩, ⟨ea, ec, box_turn h3 hg hr (by omega), ?_⟩, gro_turns h5 hg hr (by omega), Nat.le_trans h6 hg.size⟩
  refine own_block2 h4 fun j hj => hg.block j (h4.lt j hj).2 (fun e => ?_)
  rcases hr j e.symm with h | ⟨_, o', ho, hc⟩
  · exact h
  · rcases h4.2 with ⟨h, _⟩ | ⟨gg, cap, cur, h, _, hgg, _⟩
    · rw [h] at hj; simp [Value.ownBlock] at hj
    · rw [h] at hj; simp [Value.ownBlock] at hj
      subst hj
      rw [hgg] at ho; cases ho; cases hc

theorem last_index (p : List UInt8) (_ : fitB p = true) : ∃ j : Nat, j ≤ p.length ∧ Lib.lastIndexByte ⟨p.toArray⟩ 47 = (j : Int) - 1 ∧ lastN p = p.drop j := by
  rcases lastSlash p with ⟨h1, h2⟩ | ⟨i, hi, h1, h2, h3⟩
  · refine ⟨0, Nat.zero_le _, by rw [h1]; rfl, ?_⟩
    unfold lastN
    rw [partsL_name h2]; rfl
  · refine ⟨i + 1, by omega, by rw [h1]; omega, ?_⟩
    have hp := partsL_snoc (p.take i) (p.drop (i + 1)) h3
    rw [← h2] at hp
    unfold lastN
    rw [hp]; simp
theorem gro_setC {g e o : Nat} {W w1 : World} (h : Gro g W w1) (he : W.heap.size ≤ e) (v : Value) : Gro g W (w1.setCell ⟨e, o, none⟩ v) :=
  ⟨h.os, h.tape, h.output, by rw [size_setCell]; exact h.size, fun k hk hn => (Below.heap_setCell _ _ _ _ (show k ≠ e by omega)).trans (h.block k hk hn)⟩
theorem gro_putO {g D : Nat} {W w1 : World} (h : Gro g W w1) (hD : W.heap.size ≤ D) (o : Obj) : Gro g W (w1.putObj D o) :=
  ⟨h.os, h.tape, h.output, by simpa using h.size, fun k hk hne => (World.putObj_heap_other (by omega)).trans (h.block k hk hne)⟩
theorem keptP {w w1 : World} {b : Nat} {X : Obj} (hb : Below w.heap.size w w1) (h : w.heap[b]? = some X) : w1.heap[b]? = some X := (hb.block _ (heap_lt h)).trans h
/-- Behind a round. -/
theorem pdir_round {w W Wa W12 : World} {b mb n g' cap' ec : Nat} {ea : Option Addr} {pc : List UInt8 → List (List UInt8)} {items pre : List Itm} {o : List Snp} {it : Itm} {new : List Value} {tmp : Obj}
    (hmb : mb < w.heap.size) (hbx : W.heap[w.heap.size]? = some (.cells #[.pointer (some ⟨b, 0, none⟩)] 51 (0, 0))) (hnb : W.heap[w.heap.size + 1]? = some (.cells #[.int .i64 3, .string ⟨#[]⟩, .slice none 0 0, .slice ea pre.length ec] 40 (0, 0)))
    (her : W.ownsRow (w.heap.size + 4) 69 4 (.slice ea pre.length ec) pre.length ((pre.map (entK pc fun p => keyN (dirN pc items n p))).flatMap entC)) (hGw : Gro mb w W) (hs : w.heap.size + 4 ≤ W.heap.size)
    (hG : Gro mb W Wa) (hm4 : SMap Wa mb (someO pc items n o (pre ++ [it]))) (hent : entC (entK pc (fun p => keyN (dirN pc items n p)) it) = new)
    (hown' : W12.ownsRow (w.heap.size + 4) 69 4 (.slice (some ⟨g', 0, none⟩) (pre.length + 1) cap') (pre.length + 1) ((pre.map (entK pc fun p => keyN (dirN pc items n p))).flatMap entC ++ new))
    (hgrow : (Wa.alloc tmp).grownBy W12 (Value.slice ea pre.length ec).ownBlock) :
    Hid (W12.heap[w.heap.size + 1]? = some (.cells #[.int .i64 3, .string ⟨#[]⟩, .slice none 0 0, .slice ea pre.length ec] 40 (0, 0))) ∧
      Hid (KeepsFrom (w.heap.size + 4) W (W12.setCell ⟨w.heap.size + 1, 3, none⟩ (.slice (some ⟨g', 0, none⟩) (pre.length + 1) cap')) ∧ KpS (fun k => (k < w.heap.size ∧ k ≠ mb) ∨ k = w.heap.size + 1 + 1 ∨ k = w.heap.size + 1 + 1 + 1) W (W12.setCell ⟨w.heap.size + 1, 3, none⟩ (.slice (some ⟨g', 0, none⟩) (pre.length + 1) cap')) ∧
        PDirI w b mb pc items n o (pre ++ [it]) (W12.setCell ⟨w.heap.size + 1, 3, none⟩ (.slice (some ⟨g', 0, none⟩) (pre.length + 1) cap'))) := by
  have hne : ∀ j, (Value.slice ea pre.length ec).ownBlock = some j → w.heap.size + 4 ≤ j := fun j hj => (her.lt j hj).1
  have hsz := hG.size
  have hold : ∀ j, j < W.heap.size → j ≠ mb → some j ≠ (Value.slice ea pre.length ec).ownBlock → W12.heap[j]? = W.heap[j]? := fun j hj hm hn =>
    (hgrow.block j (by rw [World.size_alloc]; omega) hn).trans ((Below.heap_alloc _ _ _ (by omega)).trans (hG.block j hj (fun e => hm (Option.some.inj e))))
  have hsz2 : W.heap.size ≤ W12.heap.size := by have := hgrow.size; rw [World.size_alloc] at this; omega
  have hnb2 := (hold _ (heap_lt hnb) (by omega) (fun e => by have := hne _ e.symm; omega)).trans hnb
  have hbx2 := (hold _ (heap_lt hbx) (by omega) (fun e => by have := hne _ e.symm; omega)).trans hbx
  have hset : ∀ j, j ≠ w.heap.size + 1 → (W12.setCell ⟨w.heap.size + 1, 3, none⟩ (.slice (some ⟨g', 0, none⟩) (pre.length + 1) cap')).heap[j]? = W12.heap[j]? := fun j hj => Below.heap_setCell _ _ _ _ hj
  have hm12 : SMap W12 mb (someO pc items n o (pre ++ [it])) := hm4.block ((hgrow.block mb (by rw [World.size_alloc]; have := hm4.lt; omega) (fun e => by have := hne _ e.symm; omega)).trans (Below.heap_alloc _ _ _ hm4.lt))
  refine ⟨Lib.hid hnb2, Lib.hid ⟨⟨by rw [size_setCell]; exact hsz2, fun j ob hB hi ho => ?_⟩, ⟨by rw [size_setCell]; exact hsz2, fun j hj => ?_⟩, ⟨(hset _ (by omega)).trans hbx2, hm12.block (hset mb (by omega))⟩, ⟨some ⟨g', 0, none⟩, cap', ?_, ?_⟩, ?_, by rw [size_setCell]; omega⟩⟩
  · have hlt := heap_lt hi
    refine (hset j (by omega)).trans ((hold j hlt (by omega) (fun e => ?_)).trans hi)
    rcases her.2 with ⟨h, _⟩ | ⟨gg, cap, cur, h, _, hgg, _⟩
    · rw [h] at e; simp [Value.ownBlock] at e
    · rw [h] at e; simp [Value.ownBlock] at e
      subst e
      rw [hgg] at hi; cases hi; cases ho
  · refine (hset j (by omega)).trans (hold j (by omega) (by omega) (fun e => ?_))
    have := hne j e.symm; omega
  · rw [List.length_append]; exact heap_set_cell (o := 3) hnb2 _
  · rw [List.map_append, List.flatMap_append, List.length_append, show [it].length = 1 from rfl, show (List.map (entK pc fun p => keyN (dirN pc items n p)) [it]).flatMap entC = new by simp [hent]]
    exact own_block2 hown' fun j hj => hset j (by have := (hown'.lt j hj).1; omega)
  · have h1 : w.grownBy (Wa.alloc tmp) (some mb) := World.grownBy.trans (World.grownBy.trans hGw hG) (World.grownBy_alloc Wa tmp (some mb))
    exact ⟨hgrow.os.trans h1.os, hgrow.tape.trans h1.tape, hgrow.output.trans h1.output, by rw [size_setCell]; exact Nat.le_trans h1.size hgrow.size, fun j hj hn => (hset j (by omega)).trans ((hgrow.block j (by have := h1.size; omega) (fun e => by have := hne _ e.symm; omega)).trans (h1.block j hj hn))⟩

set_option maxHeartbeats 8000000 in
set_option maxRecDepth 100000 in
theorem pdir12_walk (b mb x k y z ic : Nat) (ia : Option Addr) (items : List Itm) (hf : FitC x k z) (hpk : 2 ^ k = y) (hrd : Ready (piecesC x k z) items) :
    ∀ (n : Nat) (o : List Snp) (d : List UInt8) (w : World), PCtx w b mb x y z ic ia items → SMap w mb o → n + deepD d = 9 → DirOf items d →
    Calls Tryz.prog 22 #[.pointer (some ⟨b, 0, none⟩), S d] w fun e w' => e = .returned (S (keyN (dirN (piecesC x k z) items n d))) ∧ SMap w' mb (dirO (piecesC x k z) items n o d) ∧ Gro mb w w'
  | 0, o, d, w, _, _, hn, hdir => by
    exfalso
    rcases hdir with rfl | ⟨x, hx, rfl⟩
    · simp [deepD] at hn
    · have := (deep_step (hrd.item hx).1).2; omega
  | n + 1, o, d, w, hctx, hm, hn, hdir => by
    have IH := pdir12_walk b mb x k y z ic ia items hf hpk hrd n
    have CF := fun (o : List Snp) (data : List UInt8) (W : World) (hT : TzT W) (hb : BldP W b mb x y z ia items.length ic) (hm : SMap W mb o) (h2 : data.length ≤ 32768) (h3 : (piecesC x k z data).length ≤ 1024) => pfile12_walk b mb x k y z items.length ic ia o data W hf hpk hT hb hm h2 h3
    obtain ⟨pc, hpc⟩ : ∃ pc, piecesC x k z = pc := ⟨_, rfl⟩
    simp only [hpc] at IH CF hrd ⊢
    obtain ⟨i0, hi, hz0, hz1, hz2⟩ := info_parts infoEnt
    have hbw := heap_lt hctx.bld
    have hmw := hm.lt
    have hbm := smap_not hm hctx.bld
    have hlen := hrd.fit.len
    have hpl : ∀ x ∈ items, x.1.length ≤ 1100000 := fun x hx => by
      obtain ⟨q1, q2, q3⟩ := fit_parts (hrd.item hx).1
      have := joinS_len (partsL x.1) (List.all_eq_true.2 q2)
      rw [joinS_parts] at this
      omega
    refine (callsIn_wide (n := 3)).1 ?_
    refine callsIn_of_wp_marks Tryz.func22 rfl trivial ?_ rfl
    simp only [Tryz.ntmps22, List.size_toArray, List.length_cons, List.length_nil, Nat.reduceAdd, Nat.reduceSub, Array.replicate_succ, Array.replicate_zero, List.push_toArray, List.append_toArray, List.nil_append, List.cons_append]
    gi_wp2_with (refine ⟨trivial, ?_⟩; gi_at_call 42; refine (callsIn_wide.2 (pin_walk _ d _ ⟨_, rfl⟩)).mono ?_; rintro e w' ⟨rfl, rfl⟩)
    obtain ⟨w0, hw0, hB0, hS0, h0, h1, h2, h3⟩ : ∃ w0, w0 = (((w.alloc (.cells #[.pointer (some ⟨b, 0, none⟩)] 51)).alloc (.cells #[.int .i64 3, .string ⟨#[]⟩, .slice none 0 0, .slice none 0 0] 40)).alloc (.cells #[.pointer (some ⟨b, 0, none⟩)] 51)).alloc (.cells #[S d] 9) ∧ Below w.heap.size w w0 ∧ w0.heap.size = w.heap.size + 4 ∧
        w0.heap[w.heap.size]? = some (.cells #[.pointer (some ⟨b, 0, none⟩)] 51 (0, 0)) ∧ w0.heap[w.heap.size + 1]? = some (.cells #[.int .i64 3, .string ⟨#[]⟩, .slice none 0 0, .slice none 0 0] 40 (0, 0)) ∧ Boxed w0 (w.heap.size + 1 + 1) 51 (.pointer (some ⟨b, 0, none⟩)) ∧ Boxed w0 (w.heap.size + 1 + 1 + 1) 9 (S d) := by
      have hold : ∀ {w : World} {o x : Obj} {k : Nat}, w.heap[k]? = some x → (w.alloc o).heap[k]? = some x := fun h => (Below.heap_alloc _ _ _ (heap_lt h)).trans h
      have hnew : ∀ {w : World} {k : Nat}, k = w.heap.size → ∀ (o : Obj), (w.alloc o).heap[k]? = some o := fun h o => by subst h; exact heap_alloc_new _ o
      refine ⟨_, rfl, ((((Below.refl _ _).alloc (Nat.le_refl _) _).alloc (by simp) _).alloc (by simp; omega) _).alloc (by simp; omega) _, by simp, ?_, ?_, ?_, ?_⟩
      · exact hold (hold (hold (heap_alloc_new w _)))
      · exact hold (hold (hnew (by simp) _))
      · exact hold (hnew (by simp) _)
      · exact hnew (by simp) _
    have hctx0 := hctx.keep hm (w' := w0) (fun k hk _ => hB0.block k hk)
    have hm0 := hm.kept hB0
    have HIT := Lib.hid (pin_iter b (w.heap.size + 1 + 1) (w.heap.size + 1 + 1 + 1) mb x y z ic ia items d (fun k => (k < w.heap.size ∧ k ≠ mb) ∨ k = w.heap.size + 1 + 1 ∨ k = w.heap.size + 1 + 1 + 1) w0 ⟨.inl ⟨hbw, hbm⟩, .inr (.inl rfl), .inr (.inr rfl)⟩
      (fun W hW => have h := hctx.keep hm (w' := W) (fun k hk hne => (hW.2 k (.inl ⟨hk, hne⟩)).trans (hB0.block k hk)); ⟨h.row, h.mx⟩) h2 h3 hctx0.bld (fun j hj => by rw [hS0]; omega) hlen hpl)
    have HIN := Lib.hid (show PDirI w b mb pc items n o [] w0 from ⟨⟨h0, hm0⟩, ⟨none, 0, h1, World.ownsRow_nil _ _ _ _⟩, gro_of hB0, by rw [hS0]; exact Nat.le_refl _⟩)
    have HCX := Lib.hid (fun (W : World) (hg : Gro mb w W) => hctx.keep hm (w' := W) (fun k hk hne => hg.block k hk (fun e => hne (Option.some.inj e))))
    have HRD := Lib.hid hrd
    have HDP := Lib.hid hn
    rw [← hw0]
    clear hw0 h0 h1 h2 h3 hctx0 hm0 hctx hm hrd hpl hf hpk hpc hdir
    refine range_law (gf := 70) (lb := #[.pointer (some ⟨w.heap.size + 1 + 1, 0, none⟩), .pointer (some ⟨w.heap.size + 1 + 1 + 1, 0, none⟩)]) rfl (enters_of Tryz.func70 (by kernel_rfl) rfl)
      HIT.out (fun r e => e.elim) (fun h k => KpS.trans h k) (fun W l o h => KpS.put W l o (by rw [hS0] at h; omega)) (fun o o' => KpS.allocs w0 o o' (fun k hk => by rw [hS0]; omega)) (fun x => rfl)
      (PDirI w b mb pc items n o) (fun _ _ _ => False) (pdirI_bides w b mb pc items n o _ (by rw [hS0]; exact Nat.le_refl _) hmw) (fun c s A B row h _ _ => h) HIN.out
      (fun e a' W => ∃ p : Nat, (w.heap.size + 4 ≤ p ∧ W.heap[p]? = some (.cells #[S e.1, .bool e.2.1, .bool e.2.2.1, S e.2.2.2] 47 (0, 0))) ∧ a' = { tmps := #[.pointer (some ⟨b, 0, none⟩), S d, .pointer (some ⟨w.heap.size, 0, none⟩), undef, .string ⟨#[]⟩, .pointer (some ⟨w.heap.size + 1, 0, none⟩), .pointer (some ⟨p, 0, none⟩), undef, .agg #[.int .i64 3, .string ⟨#[]⟩, .slice none 0 0, .slice none 0 0], .pointer (some ⟨b, 0, none⟩), S d, .func (.func 70) #[] #[.pointer (some ⟨w.heap.size + 1 + 1, 0, none⟩), .pointer (some ⟨w.heap.size + 1 + 1 + 1, 0, none⟩)], ItV e, undef, undef, undef, undef, undef, undef, undef, undef, undef, undef, undef, undef, undef, undef, undef, undef, undef, undef, undef, undef, undef, undef, undef, undef, undef, undef, undef, undef, undef, undef, undef, undef, undef, undef, undef], defers := [] })
      ?bides ?assign ?body ?done ?stop
    case bides =>
      rintro e a' u A B row ⟨p, ⟨hp1, hp2⟩, ha⟩ hg hr
      refine ⟨p, ⟨hp1, (hg.block p (heap_lt hp2) (fun e => ?_)).trans hp2⟩, ha⟩
      rcases hr p e.symm with h | ⟨_, o', ho, hc⟩
      · exact h
      · rw [hp2] at ho; cases ho; cases hc
    case assign =>
      intro ly pre e W K hI hK
      simp only [encI]
      have HI := Lib.hid hI
      have HSW := Lib.hid hI.2.2.2
      have hW1 := heap_alloc_new W (.cells #[S e.1, .bool e.2.1, .bool e.2.2.1, S e.2.2.2] 47)
      clear hI
      gi_wp2
      exact hK _ _ ((KeepsOthers.alloc _ _).from _) ⟨by simp, fun k hk => Below.heap_alloc _ _ _ (by have := HSW.out; omega)⟩ ((pdirI_bides w b mb pc items n o w0.heap.size (by rw [hS0]; exact Nat.le_refl _) hmw).new _ HI.out) ⟨_, ⟨HSW.out, hW1⟩, rfl⟩
    case body =>
      rintro ly pre ⟨p, isd, ex, data⟩ a' W hly _ ⟨⟨hbx, hmp⟩, ⟨ea, ec, hnb, her⟩, hGw, hsz⟩ ⟨q, ⟨hq1, hq2⟩, rfl⟩ hpx
      have hmem : (p, isd, ex, data) ∈ inD items d := hpx.subset (by simp)
      obtain ⟨hmi, hdd⟩ := mem_inD.1 hmem
      simp only at hdd
      obtain ⟨hfit, hodd, hdl, -⟩ := HRD.out.item hmi
      simp only at hfit hdl hq2
      have HFEW : Hid ((pc data).length ≤ 1024) := Lib.hid (HRD.out.few _ hmi)
      have HMI := Lib.hid hmi
      have HDK := Lib.hid (show n + deepD p = 9 by have := (deep_step hfit).1; rw [hdd] at this; have := HDP.out; omega)
      have hcn : pre.length ≤ 60 := by have h7 := hpx.length_le; have h8 : (inD items d).length ≤ 60 := Nat.le_trans (List.length_filter_le _ _) hlen; rw [List.length_append] at h7; simp at h7; omega
      obtain ⟨q1, q2, q3⟩ := fit_parts hfit
      have hpll : p.length ≤ 1100000 := by
        have := joinS_len (partsL p) (List.all_eq_true.2 q2)
        rw [joinS_parts] at this
        omega
      obtain ⟨j, hj, hli, hln⟩ := last_index p hfit
      have HBX := Lib.hid hbx
      have HMP := Lib.hid hmp
      have HNBW := Lib.hid hnb
      have HER := Lib.hid her
      have HGW := Lib.hid hGw
      clear hmem hmi hodd q1 q2 q3 hfit hdd hpx hbx hmp hnb her hGw HIT HIN
      gi_upto_region 4 with fail
      dsimp only
      gi_cut [7] from 13 (fun v w' => ∃ w8 e, w8 = w' ∧ v = .pointer (some ⟨e, 0, none⟩) ∧ w8.heap[e]? = some (.cells #[S (lastN p), .int .i64 2, .bool ex, .string ⟨#[]⟩] 69 (0, 0)) ∧ Below W.heap.size W w8 ∧ W.heap.size ≤ e)
      case first =>
        rename_i J K2 hJ hK2
        obtain ⟨w4, hw4, hq4, hB4⟩ : ∃ w4, w4 = W.drew ∧ w4.heap[q]? = some (.cells #[S p, .bool isd, .bool ex, S data] 47 (0, 0)) ∧ Below W.heap.size W w4 := ⟨_, rfl, hq2, ⟨rfl, rfl, rfl, Nat.le_refl _, fun _ _ => rfl⟩⟩
        have CL := fun W' => Tryz.strings_LastIndexByte ⟨p.toArray⟩ 47 (by show p.length < _; omega) W'
        rw [hli] at CL
        have hj1 : (j : Int) - 1 + 1 = (j : Int) := by omega
        have hj2 : IntKind.i64.wrap (j : Int) = (j : Int) := by rw [IntKind.wrap_i64]; omega
        have hj3 : (j : Int) ≤ (p.length : Int) := by omega
        have HJ := Lib.hid hj
        have hcut : Value.string (({ data := p.toArray } : ByteArray).extract j p.length) = S (lastN p) := by rw [S_extract, cut_hi, hln]
        have hz4 : (w4.alloc (.cells #[.string ⟨#[]⟩, .int .i64 0, .bool false, .string ⟨#[]⟩] 69)).heap[q]? = some (.cells #[S p, .bool isd, .bool ex, S data] 47 (0, 0)) := (Below.heap_alloc _ _ _ (heap_lt hq4)).trans hq4
        have hqe : q < w4.heap.size := heap_lt hq4
        obtain ⟨w5, hw5, hq5, he5, hB5⟩ : ∃ w5, w5 = w4.alloc (.cells #[.string ⟨#[]⟩, .int .i64 0, .bool false, .string ⟨#[]⟩] 69) ∧ w5.heap[q]? = some (.cells #[S p, .bool isd, .bool ex, S data] 47 (0, 0)) ∧ w5.heap[w4.heap.size]? = some (.cells #[.string ⟨#[]⟩, .int .i64 0, .bool false, .string ⟨#[]⟩] 69 (0, 0)) ∧ Below W.heap.size W w5 := ⟨_, rfl, hz4, heap_alloc_new _ _, hB4.alloc hB4.size _⟩
        obtain ⟨e, hee⟩ : ∃ e, w4.heap.size = e := ⟨_, rfl⟩
        rw [hee] at he5 hqe
        have HEW := Lib.hid (show W.heap.size ≤ e by rw [← hee]; exact hB4.size)
        obtain ⟨w8, hw8, he8, hq8, HB8⟩ : ∃ w8, w8 = (((w5.setCell ⟨e, 0, none⟩ (S (lastN p))).setCell ⟨e, 1, none⟩ (.int .i64 2)).setCell ⟨e, 2, none⟩ (.bool ex)).setCell ⟨e, 3, none⟩ (.string ⟨#[]⟩) ∧ w8.heap[e]? = some (.cells #[S (lastN p), .int .i64 2, .bool ex, .string ⟨#[]⟩] 69 (0, 0)) ∧ w8.heap[q]? = some (.cells #[S p, .bool isd, .bool ex, S data] 47 (0, 0)) ∧ Hid (Below W.heap.size W w8) :=
          ⟨_, rfl, heap_set_cell (o := 3) (heap_set_cell (o := 2) (heap_set_cell (o := 1) (heap_set_cell (o := 0) he5 _) _) _) _, (Below.heap_setCell _ _ _ _ (show q ≠ e by omega)).trans ((Below.heap_setCell _ _ _ _ (show q ≠ e by omega)).trans ((Below.heap_setCell _ _ _ _ (show q ≠ e by omega)).trans ((Below.heap_setCell _ _ _ _ (show q ≠ e by omega)).trans hq5))), Lib.hid (below_setT (below_setT (below_setT (below_setT hB5 (by have := HEW.out; omega) _ _) (by have := HEW.out; omega) _ _) (by have := HEW.out; omega) _ _) (by have := HEW.out; omega) _ _)⟩
        obtain ⟨⟨t0, t1, t2, t3⟩, ⟨f0, f1, f2, f3⟩, ⟨r0, r1, r2, r3⟩⟩ := box4 he5
        generalize lastN p = ln at *
        clear hz4 hB5 he5 hB4 hli hln hj
        (refine wpIn_region_any (by kernel_rfl) ?_; change wpAnyIn _ _ _ _ _ _ _ _ _ (World.drew _); refine wpAnyIn_of_h (S := fun w' => w'.heap[q]? = some (.cells #[S p, .bool isd, .bool ex, S data] 47 (0, 0))) _ _ _ _ ?_)
        rw [← hw4]
        clear hw4
        (refine hin_take (i := 0) (v := ?_) (by kernel_rfl) rfl (by kernel_rfl) (by kernel_rfl) (by kernel_rfl) (fun _ _ _ h => h) ⟨Or.inl ⟨by rfl, ?_⟩, fun _ => rfl⟩ (by exact hq4) ?_; rotate_left; (intro w9 hS9; skip; go_simp; try with_reducible rfl))
        (refine hin_take (i := 1) (v := ?_) (by kernel_rfl) rfl (by kernel_rfl) (by kernel_rfl) (by kernel_rfl) (fun _ _ _ h => h) ⟨Or.inl ⟨by rfl, ?_⟩, fun _ => rfl⟩ (by exact hq4) ?_; rotate_left; (intro w9 hS9; (obtain ⟨⟨s0, s1, s2, s3⟩, -, -⟩ := box4 hS9); go_simp; try with_reducible rfl))
        (refine hin_take (i := 2) (v := ?_) (by kernel_rfl) rfl (by kernel_rfl) (by kernel_rfl) (by kernel_rfl) (fun _ _ _ h => h) ⟨Or.inl ⟨by rfl, ?_⟩, fun _ => rfl⟩ (by exact hq4) ?_; rotate_left; (intro w9 hS9; skip; go_simp; try with_reducible rfl))
        (refine hin_take (i := 3) (v := ?_) (by kernel_rfl) rfl (by kernel_rfl) (by kernel_rfl) (by kernel_rfl) (fun _ _ _ h => h) ⟨Or.inl ⟨by rfl, ?_⟩, fun _ => rfl⟩ (by exact hq4) ?_; rotate_left; (intro w9 hS9; (obtain ⟨⟨s0, s1, s2, s3⟩, -, -⟩ := box4 hS9); go_simp; try with_reducible rfl))
        (refine hin_take (i := 7) (v := ?_) (by kernel_rfl) rfl (by kernel_rfl) (by kernel_rfl) (by kernel_rfl) (fun _ _ _ h => h) ⟨Or.inl ⟨by rfl, ?_⟩, fun _ => rfl⟩ (by exact hq4) ?_; rotate_left; (intro w9 hS9; skip; go_simp; try with_reducible rfl))
        (refine hin_take (i := 8) (v := ?_) (by kernel_rfl) rfl (by kernel_rfl) (by kernel_rfl) (by kernel_rfl) (fun _ _ _ h => h) ⟨Or.inl ⟨by rfl, ?_⟩, fun _ => rfl⟩ (by exact hq4) ?_; rotate_left; (intro w9 hS9; (obtain ⟨⟨s0, s1, s2, s3⟩, -, -⟩ := box4 hS9); go_simp; try with_reducible rfl))
        refine hin_two (i := 4) (j := 10) (by kernel_rfl) rfl rfl (fun K hK => ?_) (fun K hK => ?_)
        · go_simp
          refine ⟨trivial, (CallsIn.inRound ly (callsIn_wide.2 (CL _))).mono ?_⟩
          rintro e9 w9 ⟨rfl, rfl⟩
          refine hK _ _ hq4 ?_
          clear hK K
          (refine hin_take (i := 5) (v := ?_) (by kernel_rfl) rfl (by kernel_rfl) (by kernel_rfl) (by kernel_rfl) (fun _ _ _ h => h) ⟨Or.inl ⟨by rfl, ?_⟩, fun _ => rfl⟩ (by exact hq4) ?_; rotate_left; (intro w9 hS9; skip; go_simp; try with_reducible rfl))
          (refine hin_take (i := 6) (v := ?_) (by kernel_rfl) rfl (by kernel_rfl) (by kernel_rfl) (by kernel_rfl) (fun _ _ _ h => h) ⟨Or.inl ⟨by rfl, ?_⟩, fun _ => rfl⟩ (by exact hq4) ?_; rotate_left; (intro w9 hS9; skip; go_simp; try with_reducible rfl))
          (refine hin_take (i := 9) (v := ?_) (by kernel_rfl) rfl (by kernel_rfl) (by kernel_rfl) (by kernel_rfl) (fun _ _ _ h => h) ⟨Or.inl ⟨by rfl, ?_⟩, fun _ => rfl⟩ (by exact hq4) ?_; rotate_left; (intro w9 hS9; skip; go_simp; try with_reducible rfl))
          (refine hin_one (i := 10) (by kernel_rfl) rfl (fun K hK => ?_); go_simp; refine hK _ _ ((by rw [← hw5]; exact hq5)) ?_; clear hK K)
          rw [← hw5]
          clear hw5
          (refine hin_one (i := 11) (by kernel_rfl) rfl (fun K hK => ?_); go_simp; refine hK _ _ ((by rw [← hw8]; exact hq8)) ?_; clear hK K)
          rw [← hw8]
          clear hw8
          (refine hin_done (by kernel_rfl) ?_ _)
          refine hK2 _ _ (Met.intro (hJ _ _ ?_))
          (repeat apply Exists.intro)
          refine ⟨?rel, rfl⟩
          case rel => exact ⟨_, e, rfl, rfl, he8, HB8.out, HEW.out⟩
        · go_simp
          rw [← hw5]
          refine hK _ _ hq5 ?_
          clear hK K hw5
          refine hin_one (i := 4) (by kernel_rfl) rfl (fun K hK => ?_)
          go_simp
          refine ⟨trivial, (CallsIn.inRound ly (callsIn_wide.2 (CL _))).mono ?_⟩
          rintro e9 w9 ⟨rfl, rfl⟩
          refine hK _ _ hq5 ?_
          clear hK K
          (refine hin_take (i := 5) (v := ?_) (by kernel_rfl) rfl (by kernel_rfl) (by kernel_rfl) (by kernel_rfl) (fun _ _ _ h => h) ⟨Or.inl ⟨by rfl, ?_⟩, fun _ => rfl⟩ (by exact hq5) ?_; rotate_left; (intro w9 hS9; skip; go_simp; try with_reducible rfl))
          (refine hin_take (i := 6) (v := ?_) (by kernel_rfl) rfl (by kernel_rfl) (by kernel_rfl) (by kernel_rfl) (fun _ _ _ h => h) ⟨Or.inl ⟨by rfl, ?_⟩, fun _ => rfl⟩ (by exact hq5) ?_; rotate_left; (intro w9 hS9; skip; go_simp; try with_reducible rfl))
          (refine hin_take (i := 9) (v := ?_) (by kernel_rfl) rfl (by kernel_rfl) (by kernel_rfl) (by kernel_rfl) (fun _ _ _ h => h) ⟨Or.inl ⟨by rfl, ?_⟩, fun _ => rfl⟩ (by exact hq5) ?_; rotate_left; (intro w9 hS9; skip; go_simp; try with_reducible rfl))
          (refine hin_one (i := 11) (by kernel_rfl) rfl (fun K hK => ?_); go_simp; refine hK _ _ ((by rw [← hw8]; exact hq8)) ?_; clear hK K)
          rw [← hw8]
          clear hw8
          (refine hin_done (by kernel_rfl) ?_ _)
          refine hK2 _ _ (Met.intro (hJ _ _ ?_))
          (repeat apply Exists.intro)
          refine ⟨?rel, rfl⟩
          case rel => exact ⟨_, e, rfl, rfl, he8, HB8.out, HEW.out⟩
      case rest =>
        obtain ⟨w8, e, rfl, hu, he8, hb8, hew⟩ := hcut
        subst hu
        clear hln hli
        have HB8 := Lib.hid hb8
        have HEW := Lib.hid hew
        have hq8 := keptP hb8 hq2
        have hbx8 := keptP hb8 HBX.out
        have HG8 := Lib.hid (gro_of (g := mb) hb8)
        have HGW8 := Lib.hid (gro_chain HGW.out hb8)
        have hctx8 := HCX.out w8 HGW8.out
        have hm8 := HMP.out.kept hb8
        have HNB8 := Lib.hid (keptP hb8 HNBW.out)
        have HBX8 := Lib.hid hbx8
        have HE8 := Lib.hid he8
        obtain ⟨⟨s0, s1, s2, s3⟩, -, -⟩ := box4 hq8
        have c0 := heap_cell hbx8 (j := 0) rfl
        have hnem : e ≠ mb := by omega
        have hctz := hctx8.tz
        have hctx9 := hctx8.row
        have hctmx := hctx8.mx
        have hcbl := hctx8.bld
        clear hbx8 hctx8 hb8 hew hq2
        cases isd with
        | true =>
          have CD := IH (someO pc items n o pre) p w8 ⟨hcbl, hctx9, hctmx, hctz⟩ hm8 HDK.out (.inr ⟨_, HMI.out, rfl⟩)
          have HO4 := Lib.hid (show dirO pc items n (someO pc items n o pre) p = someO pc items n o (pre ++ [(p, true, ex, data)]) by rw [someO_snoc]; rfl)
          have HENT := Lib.hid (show entC (entK pc (fun p => keyN (dirN pc items n p)) (p, true, ex, data)) = [S (lastN p), .int .i64 3, .bool ex, S (keyN (dirN pc items n p))] from entK_dir)
          gi_wp2_with fail
          refine ⟨trivial, (CallsIn.inRound ly (callsIn_wide.2 CD)).mono ?_⟩
          rintro e9 w9 ⟨rfl, hm9, hg9⟩
          rw [HO4.out] at hm9
          have he9 := (hg9.block e (heap_lt HE8.out) (fun h => hnem (Option.some.inj h))).trans HE8.out
          have hG9 := World.grownBy.trans HG8.out hg9
          have hGW := HGW.out
          obtain ⟨w10, hw10, he10, hm10, HG10⟩ : ∃ w10, w10 = (w9.setCell ⟨e, 1, none⟩ (.int .i64 3)).setCell ⟨e, 3, none⟩ (S (keyN (dirN pc items n p))) ∧ w10.heap[e]? = some (.cells #[S (lastN p), .int .i64 3, .bool ex, S (keyN (dirN pc items n p))] 69 (0, 0)) ∧ SMap w10 mb (someO pc items n o (pre ++ [(p, true, ex, data)])) ∧ Hid (Gro mb W w10) := by
            have hk : ∀ b, b ≠ e → ((w9.setCell ⟨e, 1, none⟩ (.int .i64 3)).setCell ⟨e, 3, none⟩ (S (keyN (dirN pc items n p)))).heap[b]? = w9.heap[b]? := fun b hb => (Below.heap_setCell _ _ _ _ hb).trans (Below.heap_setCell _ _ _ _ hb)
            exact ⟨_, rfl, heap_set_cell (o := 3) (heap_set_cell (o := 1) he9 _) _, hm9.block (hk mb (fun h => hnem h.symm)), Lib.hid (gro_setC (gro_setC hG9 HEW.out _) HEW.out _)⟩
          have HM10 := Lib.hid hm10
          have nb10 := (HG10.out.block _ (heap_lt HNBW.out) (fun h => by have := Option.some.inj h; omega)).trans HNBW.out
          have HER10 := Lib.hid (own_block2 HER.out fun j hj => HG10.out.block j (HER.out.lt j hj).2 (fun h => by have := Option.some.inj h; have := (HER.out.lt j hj).1; omega))
          have HSZ := Lib.hid hsz
          have HS10 := Lib.hid HG10.out.size
          obtain ⟨⟨t0, t1, t2, t3⟩, ⟨f0, f1, f2, f3⟩, ⟨r0, r1, r2, r3⟩⟩ := box4 he9
          obtain ⟨⟨v0, v1, v2, v3⟩, ⟨g0, g1, g2, g3⟩, ⟨u0', u1', u2', u3'⟩⟩ := box4 (heap_set_cell (o := 1) he9 (.int .i64 3))
          clear hg9 hG9 hm9 hm10 CD hm8 hctz hcbl hctx9 hctmx hGW s0 s1 s2 s3 c0 hq8
          gi_upto_region 8 with fail
          rw [← hw10]
          clear hw10 t0 t1 t2 t3 f0 f1 f2 f3 r0 r1 r2 r3 he9
          obtain ⟨⟨z0, z1, z2, z3⟩, ⟨y0, y1, y2, y3⟩, ⟨x0, x1, x2, x3⟩⟩ := box4 nb10
          obtain ⟨⟨q0, q1, q2, q3⟩, -, -⟩ := box4 he10
          gi_wp2_with (gi_at_builtin; refine wpListIn_append_own _ rfl _ _ 38 rfl (w.heap.size + 4) 69 i0 (.agg #[.string ⟨#[]⟩, .int .i64 0, .bool false, .string ⟨#[]⟩]) 4 48 Tryz.underlying38 hi hz0 hz1 hz2 rfl (by decide) _ _ _ rfl (HER10.out.alloc _) ⟨w10.heap.size, 0, none⟩ 1 1 [S (lastN p), .int .i64 3, .bool ex, S (keyN (dirN pc items n p))] rfl rfl ?c1 ?c2 ?c3 ?c4 ?c5 ?_)
          case c1 => exact new_cells4 _ _ _ _ _ _
          case c2 => intro u hu; simp at hu; rcases hu with rfl | rfl | rfl | rfl <;> rfl
          case c3 => unfold maxLen; omega
          case c4 => omega
          case c5 => simp; have := HSZ.out; have := HS10.out; omega
          intro v' w12 hown' hgrow _
          obtain ⟨g', cap', rfl⟩ := ownsRow_succ hown'
          obtain ⟨HNB, HEND⟩ := pdir_round (n := n) (it := (p, true, ex, data)) hmw HBX.out HNBW.out HER.out HGW.out HSZ.out HG10.out HM10.out HENT.out hown' hgrow
          clear hown' hgrow z0 z1 z2 z3 y0 y1 y2 y3 x0 x1 x2 x3 nb10
          obtain ⟨⟨z0, z1, z2, z3⟩, ⟨y0, y1, y2, y3⟩, ⟨x0, x1, x2, x3⟩⟩ := box4 HNB.out
          gi_wp2
          refine ⟨?_, HEND.out.2⟩
          rw [hS0]; exact HEND.out.1
        | false =>
          have CD := CF (someO pc items n o pre) data w8 hctz hcbl hm8 hdl HFEW.out
          have HO4 := Lib.hid (show fileO (someO pc items n o pre) (pc data) = someO pc items n o (pre ++ [(p, false, ex, data)]) by rw [someO_snoc]; rfl)
          have HENT := Lib.hid (show entC (entK pc (fun p => keyN (dirN pc items n p)) (p, false, ex, data)) = [S (lastN p), .int .i64 2, .bool ex, S (keyN (fileN (pc data)))] from entK_file)
          gi_wp2_with fail
          refine ⟨trivial, (CallsIn.inRound ly (callsIn_wide.2 CD)).mono ?_⟩
          rintro e9 w9 ⟨rfl, hm9, hg9⟩
          rw [HO4.out] at hm9
          have he9 := (hg9.block e (heap_lt HE8.out) (fun h => hnem (Option.some.inj h))).trans HE8.out
          have hG9 := World.grownBy.trans HG8.out hg9
          have hGW := HGW.out
          obtain ⟨w10, hw10, he10, hm10, HG10⟩ : ∃ w10, w10 = w9.setCell ⟨e, 3, none⟩ (S (keyN (fileN (pc data)))) ∧ w10.heap[e]? = some (.cells #[S (lastN p), .int .i64 2, .bool ex, S (keyN (fileN (pc data)))] 69 (0, 0)) ∧ SMap w10 mb (someO pc items n o (pre ++ [(p, false, ex, data)])) ∧ Hid (Gro mb W w10) := by
            have hk : ∀ b, b ≠ e → (w9.setCell ⟨e, 3, none⟩ (S (keyN (fileN (pc data))))).heap[b]? = w9.heap[b]? := fun b hb => Below.heap_setCell _ _ _ _ hb
            exact ⟨_, rfl, heap_set_cell (o := 3) he9 _, hm9.block (hk mb (fun h => hnem h.symm)), Lib.hid (gro_setC hG9 HEW.out _)⟩
          have HM10 := Lib.hid hm10
          have nb10 := (HG10.out.block _ (heap_lt HNBW.out) (fun h => by have := Option.some.inj h; omega)).trans HNBW.out
          have HER10 := Lib.hid (own_block2 HER.out fun j hj => HG10.out.block j (HER.out.lt j hj).2 (fun h => by have := Option.some.inj h; have := (HER.out.lt j hj).1; omega))
          have HSZ := Lib.hid hsz
          have HS10 := Lib.hid HG10.out.size
          obtain ⟨⟨t0, t1, t2, t3⟩, ⟨f0, f1, f2, f3⟩, ⟨r0, r1, r2, r3⟩⟩ := box4 he9
          clear hg9 hG9 hm9 hm10 CD hm8 hctz hcbl hctx9 hctmx hGW s0 s1 s2 s3 c0 hq8
          gi_upto_region 8 with fail
          rw [← hw10]
          clear hw10 t0 t1 t2 t3 f0 f1 f2 f3 r0 r1 r2 r3 he9
          obtain ⟨⟨z0, z1, z2, z3⟩, ⟨y0, y1, y2, y3⟩, ⟨x0, x1, x2, x3⟩⟩ := box4 nb10
          obtain ⟨⟨q0, q1, q2, q3⟩, -, -⟩ := box4 he10
          gi_wp2_with (gi_at_builtin; refine wpListIn_append_own _ rfl _ _ 38 rfl (w.heap.size + 4) 69 i0 (.agg #[.string ⟨#[]⟩, .int .i64 0, .bool false, .string ⟨#[]⟩]) 4 48 Tryz.underlying38 hi hz0 hz1 hz2 rfl (by decide) _ _ _ rfl (HER10.out.alloc _) ⟨w10.heap.size, 0, none⟩ 1 1 [S (lastN p), .int .i64 2, .bool ex, S (keyN (fileN (pc data)))] rfl rfl ?c1 ?c2 ?c3 ?c4 ?c5 ?_)
          case c1 => exact new_cells4 _ _ _ _ _ _
          case c2 => intro u hu; simp at hu; rcases hu with rfl | rfl | rfl | rfl <;> rfl
          case c3 => unfold maxLen; omega
          case c4 => omega
          case c5 => simp; have := HSZ.out; have := HS10.out; omega
          intro v' w12 hown' hgrow _
          obtain ⟨g', cap', rfl⟩ := ownsRow_succ hown'
          obtain ⟨HNB, HEND⟩ := pdir_round (n := n) (it := (p, false, ex, data)) hmw HBX.out HNBW.out HER.out HGW.out HSZ.out HG10.out HM10.out HENT.out hown' hgrow
          clear hown' hgrow z0 z1 z2 z3 y0 y1 y2 y3 x0 x1 x2 x3 nb10
          obtain ⟨⟨z0, z1, z2, z3⟩, ⟨y0, y1, y2, y3⟩, ⟨x0, x1, x2, x3⟩⟩ := box4 HNB.out
          gi_wp2
          refine ⟨?_, HEND.out.2⟩
          rw [hS0]; exact HEND.out.1
    case done =>
      rintro D W hD ⟨⟨hbx, hmp⟩, ⟨ea, ec, hnb, her⟩, hGw, hsz⟩ hK
      have hnrow : NodRow W (dirN pc items (n + 1) d) (.slice none 0 0) (.slice ea (inD items d).length ec) := by
        refine ⟨Row.nil _ _, Row.of_ownsK (f := entC) (K := 4) (base := w.heap.size + 4) (e := 69) (fun _ => rfl) ?_⟩
        show W.ownsRow _ _ _ _ ((inD items d).map _).length _
        rw [List.length_map]; exact her
      have hnl : ∀ e ∈ (dirN pc items (n + 1) d).ents, e.1.length ≤ 1100000 := by
        intro e he
        obtain ⟨y, hy, rfl⟩ := List.mem_map.1 he
        have := nameB_len (last_name (HRD.out.item (mem_inD.1 hy).1).1)
        show (lastN y.1).length ≤ _
        omega
      have hel2 : (inD items d).length ≤ 60 := Nat.le_trans (List.length_filter_le _ _) hlen
      have hfn := HRD.out.dir (n + 1) d
      have HEQ := Lib.hid (show putN (someO pc items n o (inD items d)) (dirN pc items (n + 1) d) = dirO pc items (n + 1) o d from rfl)
      have hctxW := HCX.out W hGw
      have hbld := hctxW.bld
      have c0 := heap_cell hbx (j := 0) rfl
      obtain ⟨⟨z0, z1, z2, z3⟩, -, -⟩ := box4 hnb
      obtain ⟨d0, -⟩ := bld_cells hbld
      have l0 := LaterOf.cell c0
      have m0 := LaterOf.cell z0
      have m1 := LaterOf.cell z1
      have m2 := LaterOf.cell z2
      have m3 := LaterOf.cell z3
      have n0 := LaterOf.cell d0
      have HNR := Lib.hid hnrow
      have HM := Lib.hid hmp
      have HG := Lib.hid hGw
      have HK := Lib.hid hK
      have HD := Lib.hid hD
      have HHS := Lib.hid hS0
      have HNL := Lib.hid hnl
      have HFN := Lib.hid hfn
      have HE2 := Lib.hid hel2
      generalize someO pc items n o (inD items d) = oo at *
      clear hnrow hnl hfn hctxW hbld hbx hnb her hGw hmp hK hel2 hD c0 z0 z1 z2 z3 d0
      gi_wp2_with fail
      (refine wpIn_tail_later 5 2 rfl (by kernel_rfl) (by kernel_rfl) (by kernel_rfl) (by kernel_rfl) (by kernel_rfl) ?_; simp only [List.take_succ_cons, List.take_zero]; (repeat (gi_big_quiet_step (fail))); refine wpQuietIn_nil ?_; intro _ hw1; obtain ⟨lw, hw2⟩ := hw1; subst hw2)
      have HL := Lib.hid lw.below
      have CQ : Calls Tryz.prog 45 #[.map (some mb), .agg #[.int .i64 3, .string ⟨#[]⟩, .slice none 0 0, .slice ea (inD items d).length ec]] lw.world _ := pput12_walk mb (.slice none 0 0) (.slice ea (inD items d).length ec) _ (dirN pc items (n + 1) d) lw.world (HM.out.kept HL.out) (HNR.out.below HL.out) HFN.out (by simp [dirN]) (by simp [dirN]) (by have := HE2.out; simp [dirN]; omega) HNL.out
      refine wpAnyIn_ready (rs := [5]) (by kernel_rfl) (by simp) ?_
      refine AllReadyIn.cons rfl (fun K hK => ?_) AllReadyIn.nil
      go_simp
      refine ⟨trivial, (callsIn_wide.2 CQ).mono ?_⟩
      rintro e w5 ⟨rfl, hm9, hg9⟩
      have HK5 := Lib.hid (show w5.heap[D]? = some (.deferred (some [])) from (hg9.block D (heap_lt (keptP HL.out HK.out)) (fun e => by cases e; have := HD.out; have := HHS.out; omega)).trans (keptP HL.out HK.out))
      have HM9 := Lib.hid hm9
      have HG9 := Lib.hid (World.grownBy.trans (gro_chain HG.out HL.out) hg9)
      refine hK _ _ ?_
      clear hK K CQ hm9 hg9 l0 m0 m1 m2 m3 n0
      (refine wpAnyIn_ready (rs := [6]) (by kernel_rfl) (by simp) ?_; refine AllReadyIn.cons rfl (fun K hK => ?_) AllReadyIn.nil; go_simp; refine hK _ _ ?_; clear hK K)
      refine wpAnyIn_done (by kernel_rfl) ?_ _
      gi_wp2
      refine ⟨by simp, .inl ⟨_, _, rfl, run_takeDeferred HK5.out, ?_⟩⟩
      exact ⟨S (keyN (dirN pc items (n + 1) d)), by simp [results, Tryz.results22, go_sem], rfl, by rw [← HEQ.out]; exact HM9.out.block (World.putObj_heap_other (by have := HD.out; have := HHS.out; omega)), gro_putO HG9.out (by have := HD.out; have := HHS.out; omega) _⟩
    case stop =>
      rintro D c pre W hD hpre h
      exact h.elim
end Go.Proofs.YtbmdoekfbkpaeaaGreatDoor
