/- The objects of a tree of no items (dag.Build at nil). -/
import Derived.Test.YtffdcnhpjgpcdaaGreatDoorMapO
import Derived.Test.YtffdcnhpjgpcdaaGreatDoorNode0
import Derived.Test.YtffdcnhpjgpcdaaGreatDoorRdG
import Derived.Test.YtffdcnhpjgpcdaaGreatDoorRange
import Derived.Test.YtffdcnhpjgpcdaaGreatDoorTurns
import Derived.Test.YtffdcnhpjgpcdaaGreatDoorJTail
import Derived.Test.YtffdcnhpjgpcdaaGreatDoorTailIn
import Derived.Test.YtffdcnhpjgpcdaaGreatDoorROb12
import Derived.Test.YtffdcnhpjgpcdaaGreatDoorShelf
namespace Go.Proofs.YtffdcnhpjgpcdaaGreatDoor
open Go.RowKit
open Go.ChangeMaps (setBlock)
attribute [local go_sem] Oper.semAt_some

theorem gro_block {w w1 : World} {g : Nat} (h : Gro g w w1) (o : Obj) : Gro g w (setBlock w1 g o) :=
  World.grownBy.trans h ⟨rfl, rfl, rfl, by simp [setBlock], fun k hk hne => by
    have hne' : k ≠ g := fun e => hne (by rw [e])
    show (w1.heap.setIfInBounds g o)[k]? = _
    rw [Array.getElem?_setIfInBounds_ne (fun e => hne' e.symm)]⟩
theorem gro_put {w w1 : World} {g D : Nat} (h : Gro g w w1) (hD : w.heap.size ≤ D) (o : Obj) : Gro g w (w1.putObj D o) :=
  ⟨h.os, h.tape, h.output, by have := h.size; simpa using this, fun k hk hne => (World.putObj_heap_other (by omega)).trans (h.block k hk hne)⟩
theorem setBlock_new {w : World} {g : Nat} (h : g < w.heap.size) (o : Obj) : (setBlock w g o).heap[g]? = some o := by
  show (w.heap.setIfInBounds g o)[g]? = _
  rw [Array.getElem?_setIfInBounds_self]; simp [h]
abbrev mapO1 (k v : List UInt8) : Obj := .map #[⟨S k, S v, 0⟩] 1

/-! The sort of one. -/
set_option maxHeartbeats 1000000 in
theorem isort1_walk (a : Option Addr) (c : Nat) (fv : Value) (w : World) : Calls Tryz.prog 42 #[.slice a 1 c, .int .i64 0, .int .i64 1, fv] w fun e w' => e = .returned (.tuple #[]) ∧ Below w.heap.size w w' := by
  go_enter Tryz.func42, Tryz.ntmps42
  go_wp2
  go_loopw [8] (fun i wr => i = .int .i64 1 ∧ wr = w) (fun i _ => 0)
  case atStart => exact ⟨rfl, rfl⟩
  case round =>
    obtain ⟨rfl, rfl⟩ := hrel
    go_wp2
    go_end0
    exact ⟨rfl, Below.refl _ _⟩
set_option maxHeartbeats 4000000 in
set_option maxRecDepth 100000 in
theorem pdq1_walk (a : Option Addr) (c : Nat) (lim : Int) (fv : Value) (w : World) : Calls Tryz.prog 32 #[.slice a 1 c, .int .i64 0, .int .i64 1, .int .i64 lim, fv] w fun e w' => e = .returned (.tuple #[]) ∧ Below w.heap.size w w' := by
  have C := isort1_walk a c fv w
  go_enter Tryz.func32, Tryz.ntmps32
  go_wp2
  go_loopw [1, 2, 3, 10, 11] (fun x y l b1 b2 wr => x = .int .i64 0 ∧ y = .int .i64 1 ∧ l = .int .i64 lim ∧ b1 = .bool true ∧ b2 = .bool true ∧ wr = w) (fun _ _ _ _ _ _ => 0)
  case atStart => exact ⟨rfl, rfl, rfl, rfl, rfl, rfl⟩
  case round =>
    obtain ⟨rfl, rfl, rfl, rfl, rfl, rfl⟩ := hrel
    go_wp2_with fail
    refine C.mono ?_
    rintro e w1 ⟨rfl, hb1⟩
    go_wp2
    refine bodyPost_ret (results_none rfl _ _ _) rfl ?_
    exact ⟨rfl, hb1⟩
theorem sort1_walk (a : Option Addr) (c : Nat) (fv : Value) (w : World) : Calls Tryz.prog 21 #[.slice a 1 c, fv] w fun e w' => e = .returned (.tuple #[]) ∧ Below w.heap.size w w' := by
  have CL := Tryz.bits_Len 1 w (by decide) (by decide)
  have CP := fun lim w' => pdq1_walk a c lim fv w'
  have hw1 : IntKind.u64.wrap (1 : Int) = 1 := by decide
  go_enter Tryz.func21, Tryz.ntmps21
  go_wp2_with fail
  refine CL.mono ?_
  rintro e w1 ⟨rfl, rfl⟩
  generalize (Lib.bitLen (1 : Int).toNat : Int) = lim at *
  go_wp2_with fail
  refine (CP _ _).mono ?_
  rintro e w2 ⟨rfl, hb2⟩
  go_wp2
  go_end0
  exact ⟨rfl, hb2⟩

/-! A node's object, put into an empty map. -/
set_option maxHeartbeats 4000000 in
set_option maxRecDepth 100000 in
theorem put0_walk (mb : Nat) (kk : List UInt8) (hkk : shaF raw0 = kk) (w : World) (hm : w.heap[mb]? = some (.map #[] 0)) :
    Calls Tryz.prog 31 #[.map (some mb), N0V] w fun e w' => e = .returned (S kk) ∧ w'.heap[mb]? = some (mapO1 kk raw0) ∧ Gro mb w w' := by
  obtain ⟨w1, hw1, hB1, hz⟩ : ∃ w1, w1 = w.alloc (.cells #[.int .i64 3, .string ⟨#[]⟩, .slice none 0 0, .slice none 0 0] 57) ∧ Below w.heap.size w w1 ∧ w1.heap[w.heap.size]? = some (.cells #[.int .i64 3, .string ⟨#[]⟩, .slice none 0 0, .slice none 0 0] 57 (0, 0)) :=
    ⟨_, rfl, (Below.refl _ _).alloc (Nat.le_refl _) _, heap_alloc_new _ _⟩
  have CK := nkey0_walk w1
  rw [hkk] at CK
  have HM := Lib.hid hm
  obtain ⟨⟨z0, z1, z2, z3⟩, -, -⟩ := box4 hz
  go_enter Tryz.func31, Tryz.ntmps31
  go_upto_region 1 with fail
  rw [← hw1]
  clear hw1
  go_wp2_with fail
  refine CK.mono ?_
  rintro e w2 ⟨rfl, hb2⟩
  have hB2 := below_chain hB1 hb2 hB1.size
  have hz2 := (hb2.block _ (heap_lt hz)).trans hz
  have hm2 := (hB2.block _ (heap_lt HM.out)).trans HM.out
  have hlook := run_look_empty hm2 kk
  clear CK z0 z1 z2 z3
  obtain ⟨⟨z0, z1, z2, z3⟩, -, -⟩ := box4 hz2
  have CW := nwrite0_walk w2
  go_wp2_with fail
  refine CW.mono ?_
  rintro e w3 ⟨rfl, hb3⟩
  have hB3 := below_chain hB2 hb3 hB2.size
  have hm3 := (hB3.block _ (heap_lt HM.out)).trans HM.out
  have HN := Lib.hid (setBlock_new (heap_lt hm3) (mapO1 kk raw0))
  have HG := Lib.hid (gro_block (gro_of (g := mb) hB3) (mapO1 kk raw0))
  clear CW hlook z0 z1 z2 z3
  go_wp2_with (at_mapUpdate; refine wpList_upd_empty rfl _ rfl _ _ _ (by first | exact .inl rfl | exact .inr rfl) hm3 kk (S raw0) rfl rfl rfl ?_)
  go_wp2
  go_ret
  exact ⟨rfl, HN.out, HG.out⟩

theorem in0_walk (p : Value) (d : List UInt8) (w : World) (hp : ∃ b, p = .pointer (some ⟨b, 0, none⟩)) :
    Calls Tryz.prog 28 #[p, S d] w fun e w' => e = .returned (.func (.func 36) #[] #[.pointer (some ⟨w.heap.size, 0, none⟩), .pointer (some ⟨w.heap.size + 1, 0, none⟩)]) ∧ w' = (w.alloc (.cells #[p] 42)).alloc (.cells #[S d] 9) := by
  obtain ⟨b, rfl⟩ := hp
  go_enter Tryz.func28, Tryz.ntmps28
  go_wp2
  go_ret
  exact ⟨rfl, rfl⟩

/-! No item is handed out. -/
def KpD (n₀ : Nat) (W W' : World) : Prop := W.heap.size ≤ W'.heap.size ∧ ∀ k, k < n₀ → W'.heap[k]? = W.heap[k]?
theorem KpD.trans {n₀ : Nat} {X Y Z : World} (h : KpD n₀ X Y) (k : KpD n₀ Y Z) : KpD n₀ X Z := ⟨Nat.le_trans h.1 k.1, fun i hi => (k.2 i hi).trans (h.2 i hi)⟩
theorem KpD.put {n₀ : Nat} (W : World) (l : Nat) (o : Obj) (h : n₀ ≤ l) : KpD n₀ W (W.putObj l o) :=
  ⟨by simp, fun k hk => World.putObj_heap_other (by omega)⟩
theorem KpD.allocs {n₀ : Nat} (W : World) (o o' : Obj) (h : n₀ ≤ W.heap.size) : KpD n₀ W ((W.alloc o).alloc o') :=
  ⟨by simp; omega, fun k hk => (Below.heap_alloc _ _ _ (by simp; omega)).trans (Below.heap_alloc _ _ _ (by omega))⟩
theorem heap_oldD {w : World} {o x : Obj} {k : Nat} (h : w.heap[k]? = some x) : (w.alloc o).heap[k]? = some x := (Below.heap_alloc w o k (heap_lt h)).trans h
theorem heap_newD {w : World} {k : Nat} (h : k = w.heap.size) (o : Obj) : (w.alloc o).heap[k]? = some o := by subst h; exact heap_alloc_new w o
theorem keptD {w w' : World} {b : Nat} {X : Obj} (hb : Below w.heap.size w w') (h : w.heap[b]? = some X) : w'.heap[b]? = some X := (hb.block _ (heap_lt h)).trans h
def encD (_ : List UInt8) : Array Value := #[.agg #[.string ⟨#[]⟩, .bool false, .bool false, .string ⟨#[]⟩]]
/-- The builder, in block b. -/
abbrev BldO (w : World) (b mb : Nat) (x y z : Int) : Prop := w.heap[b]? = some (.cells #[.map (some mb), .int .i64 x, .int .i64 y, .int .i64 z, .slice none 0 0] 46 (0, 0))

set_option maxHeartbeats 2000000 in
set_option maxRecDepth 100000 in
theorem in0_iter (b b1 b2 mb : Nat) (x y z : Int) (wv w : World) (h1 : wv.heap[b1]? = some (.cells #[.pointer (some ⟨b, 0, none⟩)] 42 (0, 0))) (hb : BldO wv b mb x y z) (hB : Below wv.heap.size wv w) :
    IterOf Tryz.prog 36 #[.pointer (some ⟨b1, 0, none⟩), .pointer (some ⟨b2, 0, none⟩)] (fun _ => False) (KpD wv.heap.size) encD [] w := by
  intro ly J Jx W hKp hsz hJ hJx hY h0
  have hKv : ∀ k, k < wv.heap.size → W.heap[k]? = wv.heap[k]? := fun k hk => (hKp.2 k hk).trans (hB.block k hk)
  have c1 : W.cell? ⟨b1, 0, none⟩ = some (.pointer (some ⟨b, 0, none⟩)) := heap_cell ((hKv _ (heap_lt h1)).trans h1) (j := 0) (v := .pointer (some ⟨b, 0, none⟩)) rfl
  have c2 : W.cell? ⟨b, 4, none⟩ = some (.slice none 0 0) := heap_cell ((hKv _ (heap_lt hb)).trans hb) (j := 4) (v := .slice none 0 0) rfl
  have H0 := Lib.hid h0
  clear h1 hb hB hKp hKv hY hJ hJx h0
  refine (callsIn_wide (n := 3)).1 ?_
  refine callsIn_of_wp Tryz.func36 rfl trivial ?_ rfl
  simp only [Tryz.ntmps36, List.size_toArray, List.length_cons, List.length_nil, Nat.reduceAdd, Nat.reduceSub, Array.replicate_succ, Array.replicate_zero, List.push_toArray, List.append_toArray, List.nil_append, List.cons_append]
  gi_wp2
  gi_loopw [11] (fun i wr => i = .int .i64 0 ∧ wr = W) (fun i _ => 0)
  case atStart => exact ⟨rfl, rfl⟩
  case round =>
    obtain ⟨rfl, rfl⟩ := hrel
    gi_wp2
    go_end0
    exact ⟨⟨_, rfl⟩, .inl H0.out⟩

/-- Behind the loop that hands out nothing. -/
def DirI (w : World) (b mb : Nat) (x y z : Int) (_ : List (List UInt8)) (W : World) : Prop :=
  (W.heap[w.heap.size]? = some (.cells #[.pointer (some ⟨b, 0, none⟩)] 42 (0, 0)) ∧ W.heap[w.heap.size + 1]? = some (.cells #[.int .i64 3, .string ⟨#[]⟩, .slice none 0 0, .slice none 0 0] 57 (0, 0))) ∧ (BldO W b mb x y z ∧ W.heap[mb]? = some (.map #[] 0)) ∧ Below w.heap.size w W ∧ w.heap.size + 4 ≤ W.heap.size
theorem blk_turn {k N : Nat} {o : Obj} {A B : World} {row : Option Nat} (h : A.heap[k]? = some o) (hg : A.grownBy B row) (hr : Turns (fun _ => False) N A row) (hk : k < N) : B.heap[k]? = some o := by
  refine (hg.block k (heap_lt h) (fun e => ?_)).trans h
  rcases hr k e.symm with h1 | ⟨h1, _⟩
  · exact h1
  · omega
theorem dirI_bides (w : World) (b mb : Nat) (x y z : Int) (N : Nat) (hN : w.heap.size + 4 ≤ N) (hb : b < w.heap.size) (hm : mb < w.heap.size) : Bides (fun _ => False) N (DirI w b mb x y z) := by
  rintro s A B row ⟨⟨h1, h2⟩, ⟨h3, h4⟩, h5, h6⟩ hg hr
  exact ⟨⟨blk_turn h1 hg hr (by omega), blk_turn h2 hg hr (by omega)⟩, ⟨blk_turn h3 hg hr (by omega), blk_turn h4 hg hr (by omega)⟩, below_turn h5 hg hr (fun r e => e.elim) (by omega) (by omega), Nat.le_trans h6 hg.size⟩

set_option maxHeartbeats 4000000 in
set_option maxRecDepth 100000 in
theorem dir0_walk (b mb : Nat) (x y z : Int) (kk : List UInt8) (hkk : shaF raw0 = kk) (w : World) (hb : BldO w b mb x y z) (hm : w.heap[mb]? = some (.map #[] 0)) :
    Calls Tryz.prog 20 #[.pointer (some ⟨b, 0, none⟩), .string ⟨#[]⟩] w fun e w' => e = .returned (S kk) ∧ w'.heap[mb]? = some (mapO1 kk raw0) ∧ Gro mb w w' := by
  have hbw := heap_lt hb
  have hmw := heap_lt hm
  refine (callsIn_wide (n := 3)).1 ?_
  refine callsIn_of_wp_marks Tryz.func20 rfl trivial ?_ rfl
  simp only [Tryz.ntmps20, List.size_toArray, List.length_cons, List.length_nil, Nat.reduceAdd, Nat.reduceSub, Array.replicate_succ, Array.replicate_zero, List.push_toArray, List.append_toArray, List.nil_append, List.cons_append]
  gi_wp2_with (refine ⟨trivial, ?_⟩; gi_at_call 28; refine (callsIn_wide.2 (in0_walk _ [] _ ⟨_, rfl⟩)).mono ?_; rintro e w' ⟨rfl, rfl⟩)
  have b0 := Boxed.new w 42 (.pointer (some ⟨b, 0, none⟩))
  obtain ⟨w0, hw0, hB0, hS0, h0, h1, h2⟩ : ∃ w0, w0 = (((w.alloc (.cells #[.pointer (some ⟨b, 0, none⟩)] 42)).alloc (.cells #[.int .i64 3, .string ⟨#[]⟩, .slice none 0 0, .slice none 0 0] 57)).alloc (.cells #[.pointer (some ⟨b, 0, none⟩)] 42)).alloc (.cells #[.string ⟨#[]⟩] 9) ∧ Below w.heap.size w w0 ∧ w0.heap.size = w.heap.size + 4 ∧ w0.heap[w.heap.size]? = some (.cells #[.pointer (some ⟨b, 0, none⟩)] 42 (0, 0)) ∧ w0.heap[w.heap.size + 1]? = some (.cells #[.int .i64 3, .string ⟨#[]⟩, .slice none 0 0, .slice none 0 0] 57 (0, 0)) ∧ w0.heap[w.heap.size + 2]? = some (.cells #[.pointer (some ⟨b, 0, none⟩)] 42 (0, 0)) := by
    refine ⟨_, rfl, ((((Below.refl _ _).alloc (Nat.le_refl _) _).alloc (by simp) _).alloc (by simp; omega) _).alloc (by simp; omega) _, by simp, ?_, ?_, ?_⟩
    · exact heap_oldD (heap_oldD (heap_oldD (heap_alloc_new w _)))
    · exact heap_oldD (heap_oldD (heap_newD (by simp) _))
    · exact heap_oldD (heap_newD (by simp) _)
  have hbx := (hB0.block _ hbw).trans hb
  have hmx := (hB0.block _ hmw).trans hm
  rw [← hw0]
  clear hw0 b0
  refine range_law (gf := 36) (lb := #[.pointer (some ⟨w.heap.size + 2, 0, none⟩), .pointer (some ⟨w.heap.size + 3, 0, none⟩)]) rfl (enters_of Tryz.func36 (by kernel_rfl) rfl)
    (in0_iter b (w.heap.size + 2) (w.heap.size + 3) mb x y z w0 w0 h2 hbx (Below.refl _ _)) (fun r e => e.elim) (fun h k => KpD.trans h k) (fun W l o h => KpD.put W l o h) (fun o o' => KpD.allocs w0 o o' (Nat.le_refl _)) (fun x => rfl)
    (DirI w b mb x y z) (fun _ _ _ => False) (dirI_bides w b mb x y z _ (by omega) hbw hmw) (fun c s A B row h _ _ => h) ⟨⟨h0, h1⟩, ⟨hbx, hmx⟩, hB0, by omega⟩
    (fun x a' _ => True)
    (fun x a' _ _ _ _ hs _ _ => hs) ?assign ?body ?done ?stop
  case assign =>
    intro ly pre xx W K hI hK
    simp only [encD]
    have HI := Lib.hid hI
    have HSZ := Lib.hid (show w0.heap.size ≤ W.heap.size by have := hI.2.2.2; omega)
    clear hI
    gi_wp2
    exact hK _ _ ((KeepsOthers.alloc _ _).from _) ⟨by simp, fun k hk => Below.heap_alloc _ _ _ (by have := HSZ.out; omega)⟩ ((dirI_bides w b mb x y z w0.heap.size (by omega) hbw hmw).new _ HI.out) trivial
  case body =>
    rintro ly pre x a' W hly _ hI hA hpx
    simp at hpx
  case done =>
    rintro D W hD ⟨⟨h0, h1⟩, ⟨h3, h4⟩, h5, h6⟩ hK
    have c0 := heap_cell h0 (j := 0) (v := .pointer (some ⟨b, 0, none⟩)) rfl
    obtain ⟨⟨z0, z1, z2, z3⟩, -, -⟩ := box4 h1
    have d0 := heap_cell h3 (j := 0) (v := .map (some mb)) rfl
    have l0 := LaterOf.cell c0
    have m0 := LaterOf.cell z0
    have m1 := LaterOf.cell z1
    have m2 := LaterOf.cell z2
    have m3 := LaterOf.cell z3
    have n0 := LaterOf.cell d0
    have H4 := Lib.hid h4
    have H5 := Lib.hid h5
    have HK := Lib.hid hK
    clear c0 z0 z1 z2 z3 d0 h0 h1 h3 h4 h5 hK
    gi_wp2_with fail
    (refine wpIn_tail_later 5 2 rfl (by kernel_rfl) (by kernel_rfl) (by kernel_rfl) (by kernel_rfl) (by kernel_rfl) ?_; simp only [List.take_succ_cons, List.take_zero]; (repeat (gi_big_quiet_step (fail))); refine wpQuietIn_nil ?_; intro _ hw1; obtain ⟨lw, hw2⟩ := hw1; subst hw2)
    have CP := put0_walk mb kk hkk lw.world (keptD lw.below H4.out)
    have HL := Lib.hid lw.below
    refine wpAnyIn_ready (rs := [5]) (by kernel_rfl) (by simp) ?_
    refine AllReadyIn.cons rfl (fun K hK => ?_) AllReadyIn.nil
    go_simp
    refine ⟨trivial, (callsIn_wide.2 CP).mono ?_⟩
    rintro e w5 ⟨rfl, hmap, hgro⟩
    have HD := Lib.hid hD
    have HK5 := Lib.hid (show w5.heap[D]? = some (.deferred (some [])) from (hgro.block D (heap_lt (keptD HL.out HK.out)) (fun e => by cases e; have := hS0; omega)).trans (keptD HL.out HK.out))
    have HMAP := Lib.hid hmap
    have HGRO := Lib.hid (World.grownBy.trans (gro_of (g := mb) (H5.out.trans (HL.out.mono H5.out.size))) hgro)
    refine hK _ _ ?_
    clear hK K CP hmap hgro l0 m0 m1 m2 m3 n0
    (refine wpAnyIn_ready (rs := [6]) (by kernel_rfl) (by simp) ?_; refine AllReadyIn.cons rfl (fun K hK => ?_) AllReadyIn.nil; go_simp; refine hK _ _ ?_; clear hK K)
    refine wpAnyIn_done (by kernel_rfl) ?_ _
    gi_wp2
    refine ⟨by simp, .inl ⟨_, _, rfl, run_takeDeferred HK5.out, ?_⟩⟩
    exact ⟨S kk, by simp [results, Tryz.results20, go_sem], rfl, (World.putObj_heap_other (by have := HD.out; omega)).trans HMAP.out, gro_put HGRO.out (by have := HD.out; omega) _⟩
  case stop =>
    rintro D c pre W hD hpre h
    exact h.elim

set_option maxHeartbeats 4000000 in
set_option maxRecDepth 100000 in
theorem build0_walk (x y z : Int) (kk : List UInt8) (hkk : shaF raw0 = kk) (w : World) :
    Calls Tryz.prog 15 #[.agg #[.int .i64 x, .int .i64 y, .int .i64 z], .slice none 0 0] w fun e w' => ∃ v, e = .returned (.tuple #[S kk, v]) ∧ SnpRow w' v [(kk, raw0)] ∧ Below w.heap.size w w' := by
  obtain ⟨i0, hi, hz0, hz1, hz2⟩ := info_parts infoObj
  have hmk : Sem.run Tryz.prog (Instr.makeMap 44 none) (w.alloc (.cells #[.int .i64 x, .int .i64 y, .int .i64 z] 36)) = Result.ok (Value.map (some (w.heap.size + 1))) ((w.alloc (.cells #[.int .i64 x, .int .i64 y, .int .i64 z] 36)).alloc (.map #[] 0)) := by
    rw [show w.heap.size + 1 = (w.alloc (.cells #[.int .i64 x, .int .i64 y, .int .i64 z] 36)).heap.size by simp]; rfl
  obtain ⟨w1, hw1, HB1, hz1s, hmp, hbl⟩ : ∃ w1, w1 = ((w.alloc (.cells #[.int .i64 x, .int .i64 y, .int .i64 z] 36)).alloc (.map #[] 0)).alloc (.cells #[.map (some (w.heap.size + 1)), .int .i64 x, .int .i64 y, .int .i64 z, .slice none 0 0] 46) ∧ Hid (Below w.heap.size w w1) ∧ w1.heap.size = w.heap.size + 3 ∧ w1.heap[w.heap.size + 1]? = some (.map #[] 0) ∧ BldO w1 (w.heap.size + 1 + 1) (w.heap.size + 1) x y z := by
    refine ⟨_, rfl, (((Below.refl _ _).alloc (Nat.le_refl _) _).alloc (by simp) _).alloc (by simp; omega) _, by simp, ?_, ?_⟩
    · exact heap_oldD (heap_newD (by simp) _)
    · exact heap_newD (by simp) _
  have CD := dir0_walk (w.heap.size + 1 + 1) (w.heap.size + 1) x y z kk hkk w1 hbl hmp
  go_enter Tryz.func15, Tryz.ntmps15
  go_upto_region 2 with fail
  rw [← hw1]
  clear hw1
  go_wp2_with fail
  refine CD.mono ?_
  rintro e w2 ⟨rfl, hm2, hg2⟩
  have hsz2 := hg2.size
  have hbl2 : BldO w2 (w.heap.size + 1 + 1) (w.heap.size + 1) x y z := (hg2.block _ (heap_lt hbl) (by simp)).trans hbl
  have HBW2 := Lib.hid (show Below w.heap.size w w2 from HB1.out.trans (gro_below hg2 (by omega) (by omega)))
  have d0 := heap_cell hbl2 (j := 0) (v := .map (some (w.heap.size + 1))) rfl
  have hrng := run_range_map (P := Tryz.prog) w2 44 9 9 (w.heap.size + 1) #[⟨S kk, S raw0, 0⟩] 1 Tryz.underlying44 hm2
  clear CD hg2 hbl hmp
  obtain ⟨w3, hw3, hit3, hm3, HB3⟩ : ∃ w3, w3 = w2.alloc (.mapIter (some (w.heap.size + 1)) 1 #[] 1) ∧ w3.heap[w2.heap.size]? = some (.mapIter (some (w.heap.size + 1)) 1 #[] 1) ∧ w3.heap[w.heap.size + 1]? = some (mapO1 kk raw0) ∧ Hid (Below w.heap.size w w3) :=
    ⟨_, rfl, heap_alloc_new _ _, heap_oldD hm2, HBW2.out.alloc HBW2.out.size _⟩
  go_upto_region 5 with fail
  rw [← hw3]
  clear hw3 hrng d0 hbl2 hm2
  obtain ⟨r, hr⟩ : ∃ r, w2.heap.size = r := ⟨_, rfl⟩
  obtain ⟨mb, hmb⟩ : ∃ mb, w.heap.size + 1 = mb := ⟨_, rfl⟩
  have hrw : w.heap.size ≤ r := by rw [← hr]; have := hsz2; omega
  have hrm : mb ≠ r := by omega
  rw [hr] at hit3 ⊢
  rw [hmb] at hit3 hm3
  clear hr hmb
  go_loopw [8] (fun v wr => (v = .slice none 0 0 ∧ wr = w3) ∨ (∃ g c, v = .slice (some ⟨g, 0, none⟩) 1 c ∧ SnpRow wr (.slice (some ⟨g, 0, none⟩) 1 c) [(kk, raw0)] ∧ wr.heap[r]? = some (.mapIter (some mb) 1 #[0] 1) ∧ wr.heap[mb]? = some (mapO1 kk raw0) ∧ Below w.heap.size w wr)) (fun v _ => match v with | .slice none _ _ => 1 | _ => 0)
  case atStart => exact .inl ⟨rfl, rfl⟩
  case round =>
    rcases hrel with ⟨rfl, rfl⟩ | ⟨g, c, rfl, hrow, hit, hmp, hB⟩
    · rcases run_next_at (P := Tryz.prog) wr 0 r mb 1 1 #[] #[⟨S kk, S raw0, 0⟩] 1 hit3 hm3 (by simp) (Nat.le_refl _) with ⟨h0, _⟩ | ⟨e, he, w4, hw4, hrun⟩
      · exfalso; simp [leftOf] at h0
      obtain rfl : e = ⟨S kk, S raw0, 0⟩ := by
        have := (mem_left he).1
        simpa using this
      have h4 : w4.heap = wr.heap := by rcases hw4 with rfl | rfl <;> rfl
      have hB4 : Below w.heap.size w w4 := by
        rcases hw4 with rfl | rfl
        · exact HB3.out
        · exact HB3.out.drew
      have hr4 : r < w4.heap.size := by rw [h4]; exact heap_lt hit3
      obtain ⟨w5, hw5, hit5, hm5, hB5⟩ : ∃ w5, w5 = setBlock w4 r (.mapIter (some mb) 1 (#[].push 0) 1) ∧ w5.heap[r]? = some (.mapIter (some mb) 1 (#[].push 0) 1) ∧ w5.heap[mb]? = some (mapO1 kk raw0) ∧ Below w.heap.size w w5 := by
        refine ⟨_, rfl, setBlock_new hr4 _, ?_, ?_⟩
        · show (w4.heap.setIfInBounds r _)[mb]? = _
          rw [Array.getElem?_setIfInBounds_ne (fun e => hrm e.symm), h4]; exact hm3
        · refine ⟨hB4.os, hB4.tape, hB4.output, by show w.heap.size ≤ (w4.heap.setIfInBounds r _).size; simpa using hB4.size, fun k hk => ?_⟩
          show (w4.heap.setIfInBounds r _)[k]? = _
          rw [Array.getElem?_setIfInBounds_ne (by omega)]; exact hB4.block k hk
      have hent := run_entry_at (P := Tryz.prog) w5 r mb 1 #[] #[⟨S kk, S raw0, 0⟩] 1 ⟨S kk, S raw0, 0⟩ hit5 hm5 (by simp) (by simp)
      simp only at hrun hent
      rw [← hw5] at hrun
      have hsz5 := hB5.size
      clear hw5 h4 hB4 hr4 hw4 he
      go_wp2_with (at_builtin; refine wpList_append_own _ rfl _ _ 22 rfl w5.heap.size 24 i0 (.agg #[.string ⟨#[]⟩, .string ⟨#[]⟩]) 2 32 Tryz.underlying22 hi hz0 hz1 hz2 rfl (by decide) _ _ _ rfl (World.ownsRow_nil _ _ _ _) ⟨w5.heap.size, 0, none⟩ 1 1 [S kk, S raw0] rfl rfl (new_cells _ _ _ _) (by intro u hu; simp at hu; rcases hu with rfl | rfl <;> rfl) (by unfold maxLen; omega) (by omega) (by simp) ?_)
      intro v' w6 hown' hgrow _
      have hb56 : Below w5.heap.size w5 w6 := ((Below.refl _ _).alloc (Nat.le_refl _) _).grown hgrow (by simp) (fun j hj => by cases hj)
      have HROW := Lib.hid (Row.of_owns (xs := [(kk, raw0)]) (by simpa using hown'))
      obtain ⟨g', cap', rfl⟩ := ownsRow_succ hown'
      have HIT := Lib.hid (show w6.heap[r]? = some (.mapIter (some mb) 1 #[0] 1) from (hb56.block _ (heap_lt hit5)).trans hit5)
      have HMP := Lib.hid ((hb56.block _ (heap_lt hm5)).trans hm5)
      have HB6 := Lib.hid (hB5.trans (hb56.mono hB5.size))
      clear hrun hent hown' hgrow hb56 hit5 hm5 hB5
      go_wp2
      go_roundw
      case rel => exact .inr ⟨g', cap', rfl, HROW.out, HIT.out, HMP.out, HB6.out⟩
      case measure => simp
    · rcases run_next_at (P := Tryz.prog) wr 0 r mb 1 1 #[0] #[⟨S kk, S raw0, 0⟩] 1 hit hmp (by simp) (Nat.le_refl _) with ⟨_, hrun⟩ | ⟨e, he, w4, hw4, hrun⟩
      · have HROW := Lib.hid hrow
        have CS := sort1_walk (some ⟨g, 0, none⟩) c (.func (.func 22) #[] #[]) wr
        have HB := Lib.hid hB
        clear hrow hit hmp hB
        go_wp2_with fail
        refine CS.mono ?_
        rintro e w7 ⟨rfl, hb7⟩
        have HROW7 := Lib.hid (HROW.out.below hb7)
        have HB7 := Lib.hid (HB.out.trans (hb7.mono HB.out.size))
        clear hb7 CS hrun
        go_wp2
        go_ret2
        exact ⟨_, rfl, HROW7.out, HB7.out⟩
      · exfalso
        obtain ⟨h1, h2⟩ := mem_left he
        obtain rfl : e = ⟨S kk, S raw0, 0⟩ := by simpa using h1
        simp at h2
end Go.Proofs.YtffdcnhpjgpcdaaGreatDoor
