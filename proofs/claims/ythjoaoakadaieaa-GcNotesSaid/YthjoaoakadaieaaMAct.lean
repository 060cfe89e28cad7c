/- The machine's act: something is done, if the power is there. -/
import Derived.Test.YthjoaoakadaieaaMSet
namespace Go.Proofs.Ythjoaoakadaieaa
open Go.RowKit

theorem heap_old {w : World} {o x : Obj} {k : Nat} (h : w.heap[k]? = some x) : (w.alloc o).heap[k]? = some x := (Below.heap_alloc w o k (heap_lt h)).trans h
theorem heap_new' {w : World} {k : Nat} (h : k = w.heap.size) (o : Obj) : (w.alloc o).heap[k]? = some o := by subst h; exact heap_alloc_new w o
theorem cell_keep {w W : World} {n : Nat} (h : ∀ k, k < n → W.heap[k]? = w.heap[k]?) (hn : w.heap.size ≤ n) {b o : Nat} {v : Value} (hc : w.cell? ⟨b, o, none⟩ = some v) : W.cell? ⟨b, o, none⟩ = some v :=
  (World.cell?_of_block (a := ⟨b, o, none⟩) (h b (by have := lt_of_cell hc; omega))).trans hc
theorem Row.keep {α : Type} {f : α → List Value} {w W : World} {v : Value} {xs : List α} (h : Row f w v xs) (hk : ∀ k, k < w.heap.size → W.heap[k]? = w.heap[k]?) : Row f W v xs := by
  obtain ⟨a, c, hv, hc, hm, h⟩ := h
  refine ⟨a, c, hv, hc, hm, ?_⟩
  rcases h with h | ⟨b, o, ha, h⟩
  · exact .inl h
  · exact .inr ⟨b, o, ha, fun j x hx i u hu => cell_keep hk (Nat.le_refl _) (h j x hx i u hu)⟩
/-- What reads as files whatever lies in the blocks that Z names. -/
def FilesZ (Z : Nat → Prop) (w : World) (v : Value) (l : List DF) : Prop := ∀ W : World, (∀ k, k < w.heap.size → ¬ Z k → W.heap[k]? = w.heap[k]?) → FilesR W v l
def OpsZ (Z : Nat → Prop) (w : World) (x : DF) : Prop := ∀ W : World, (∀ k, k < w.heap.size → ¬ Z k → W.heap[k]? = w.heap[k]?) → OpRow W x.ov x.ops
theorem FilesZ.here {Z : Nat → Prop} {w : World} {v : Value} {l : List DF} (h : FilesZ Z w v l) : FilesR w v l := h w (fun _ _ _ => rfl)
theorem OpsZ.here {Z : Nat → Prop} {w : World} {x : DF} (h : OpsZ Z w x) : OpRow w x.ov x.ops := h w (fun _ _ _ => rfl)
theorem FilesZ.ops {Z : Nat → Prop} {w : World} {v : Value} {l : List DF} (h : FilesZ Z w v l) : ∀ x ∈ l, OpsZ Z w x := fun x hx W hW => (h W hW).2 x hx
theorem FilesZ.of {w : World} {v : Value} {l : List DF} (h : FilesR w v l) : FilesZ (fun _ => False) w v l := fun W hW =>
  ⟨h.1.keep (fun k hk => hW k hk (fun e => e)), fun x hx => (h.2 x hx).keep (fun k hk => hW k hk (fun e => e))⟩
/-- .. and in the blocks n₀ .. r. -/
def FilesX (Z : Nat → Prop) (n₀ r : Nat) (w : World) (v : Value) (l : List DF) : Prop := ∀ W : World, (∀ k, (k < n₀ ∧ ¬ Z k) ∨ (r < k ∧ k < w.heap.size) → W.heap[k]? = w.heap[k]?) → FilesR W v l
def OpsX (Z : Nat → Prop) (n₀ r : Nat) (w : World) (x : DF) : Prop := ∀ W : World, (∀ k, (k < n₀ ∧ ¬ Z k) ∨ (r < k ∧ k < w.heap.size) → W.heap[k]? = w.heap[k]?) → OpRow W x.ov x.ops
theorem FilesX.here {Z : Nat → Prop} {n₀ r : Nat} {w : World} {v : Value} {l : List DF} (h : FilesX Z n₀ r w v l) : FilesR w v l := h w (fun _ _ => rfl)
theorem filesx_own {Z : Nat → Prop} {n₀ r B : Nat} {w : World} {v : Value} {l : List DF} (h : OwnF w B v l) (hB : r < B) (hx : ∀ x ∈ l, OpsX Z n₀ r w x) : FilesX Z n₀ r w v l := fun W hk =>
  ⟨Row.of_ownsK dfC_len (own_keep h (fun g hg hl => hk g (.inr ⟨by omega, hl⟩))), fun x hm => hx x hm W hk⟩
theorem opsx_old {Z : Nat → Prop} {r : Nat} {w0 w : World} {x : DF} (h : OpsZ Z w0 x) (hb : ∀ k, k < w0.heap.size → w.heap[k]? = w0.heap[k]?) : OpsX Z w0.heap.size r w x := fun W hk =>
  h W (fun k hlt hz => (hk k (.inl ⟨hlt, hz⟩)).trans (hb k hlt))
theorem filesx_old {Z : Nat → Prop} {r : Nat} {w0 w : World} {v : Value} {l : List DF} (h : FilesZ Z w0 v l) (hb : Below w0.heap.size w0 w) : FilesX Z w0.heap.size r w v l := fun W hk =>
  h W (fun k hlt hz => (hk k (.inl ⟨hlt, hz⟩)).trans (hb.block k hlt))
theorem opsx_own {Z : Nat → Prop} {n₀ r B : Nat} {w : World} {x : DF} (h : w.ownsRow B 69 2 x.ov x.ops.length (x.ops.flatMap opC)) (hB : r < B) : OpsX Z n₀ r w x := fun W hk =>
  Row.of_ownsK opC_len (own_keep h (fun g hg hl => hk g (.inr ⟨by omega, hl⟩)))
/-- From what an act leaves to what its caller says. -/
theorem filesx_z {Z : Nat → Prop} {n₀ r b3 : Nat} {w w' : World} {v : Value} {l : List DF} (h : FilesX Z n₀ r w v l) (hs : w'.heap.size = w.heap.size) (hk : ∀ k, k ≠ b3 → w'.heap[k]? = w.heap[k]?) (h3 : n₀ ≤ b3 ∧ b3 ≤ r) (hZ : ∀ k, Z k → k < n₀) (hn : n₀ ≤ r) (hw : n₀ ≤ w.heap.size) : FilesZ Z w' v l := fun W hW =>
  h W (fun k hc => by
    rcases hc with ⟨h1, h2⟩ | ⟨h1, h2⟩
    · exact (hW k (by omega) h2).trans (hk k (by omega))
    · exact (hW k (by omega) (fun hz => by have := hZ k hz; omega)).trans (hk k (by omega)))

/-- What an act comes to; what lies below the machine's block b lies as it lay. -/
def ActPost (d : LD) (wrong : Int) (fs : List LF) (Z : Nat → Prop) (b : Nat) (w0 w : World) (e : Ending) (w' : World) : Prop :=
  ∃ v' off' fuse' l' err, e = .returned (.tuple #[DiskV v' off' fuse', .int .i64 err]) ∧ FilesX Z w0.heap.size w.heap.size w' v' l' ∧ actD d wrong fs = ((los l', off', fuse'), err) ∧ Below b w w'

theorem size_setCell' (w : World) (a : Addr) (v : Value) : (w.setCell a v).heap.size = w.heap.size := by simp [World.setCell]
theorem mbox_fuse {w : World} {b : Nat} {v : Value} {off : Bool} {fuse : Int} (h : MBox w b v off fuse) (f' : Int) : MBox (w.setCell ⟨b, 2, none⟩ (.int .i64 f')) b v off f' := by
  have := heap_set_cell (o := 2) h (.int .i64 f'); simpa using this

set_option maxHeartbeats 4000000 in
set_option maxRecDepth 100000 in
theorem act_walk (Z : Nat → Prop) (b : Nat) (v : Value) (off : Bool) (fuse : Int) (l : List DF) (wrong : Int) (gd : Nat) (caps : Array Value) (fs : List LF) (w0 w : World) (hm : MBox w b v off fuse) (hzf : FilesZ Z w0 v l) (hw : Below w0.heap.size w0 w) (hcnt : l.length ≤ 1000000) (hn : w0.heap.size ≤ b) (hf1 : -1 ≤ fuse) (hf2 : fuse ≤ 1048576)
    (hen : ∀ args w, (callFunc gd args).run Try.prog w = .ok (.enter gd args) w)
    (hdo : wrong = 0 → ∀ f' v1 w1, MBox w1 b v1 off f' → OwnF w1 (w.heap.size + 1) v1 l → w.heap.size + 1 ≤ w1.heap.size → (∀ k, k < w.heap.size → k ≠ b → w1.heap[k]? = w.heap[k]?) →
      Calls Try.prog gd caps w1 fun e w2 => e = .returned (.tuple #[]) ∧ ∃ v2 l2, MBox w2 b v2 off f' ∧ FilesX Z w0.heap.size w.heap.size w2 v2 l2 ∧ los l2 = fs ∧ Below b w1 w2 ∧ w2.heap[w.heap.size]? = w1.heap[w.heap.size]?) :
    Calls Try.prog 47 #[.pointer (some ⟨b, 0, none⟩), .int .i64 wrong, .func (.func gd) #[] caps] w (ActPost (los l, off, fuse) wrong fs Z b w0 w) := by
  have hbw := heap_lt hm
  have HZF := Lib.hid hzf
  have hr := hzf.here
  clear hzf
  have hr0 := hr
  have hone := df_one hr.2
  have HR0 := Lib.hid hr0
  obtain ⟨⟨a, c, rfl, hc, hcm, hx⟩, hops⟩ := hr
  have HONE := Lib.hid hone
  clear hx hops hr0 hone
  have hA : Below w.heap.size w (w.alloc (.cells #[.slice none 0 0, .bool false, .int .i64 0] 35)) := (Below.refl _ _).alloc (Nat.le_refl _) _
  have ha0 := cell_new w #[.slice none 0 0, .bool false, .int .i64 0] 35 0 rfl
  have ha1 := cell_new w #[.slice none 0 0, .bool false, .int .i64 0] 35 1 rfl
  have ha2 := cell_new w #[.slice none 0 0, .bool false, .int .i64 0] 35 2 rfl
  have hm1 := heap_later hm hA hbw
  have hc0 := heap_cell hm (j := 0) (v := .slice a l.length c) rfl
  have hc1 := heap_cell hm (j := 1) (v := .bool off) rfl
  have hc2 := heap_cell hm (j := 2) (v := .int .i64 fuse) rfl
  have hfr := heap_free hm
  have hfr1 := hfr 1
  have hfr2 := hfr 2
  have hbs : ∀ X : Obj, Below b w (w.alloc X) := fun X => (Below.refl b w).alloc (by omega) X
  have HA := Lib.hid (show actD (los l, off, fuse) wrong fs = if off = true then ((los l, off, fuse), 13) else if wrong ≠ 0 then ((los l, off, fuse), wrong) else if fuse = 0 then ((los l, true, -1), 13) else ((fs, off, if 0 < fuse then fuse - 1 else fuse), 0) from rfl)
  clear hfr
  cases off with
  | true =>
    have HA1 := Lib.hid (HA.out.trans (if_pos rfl))
    clear hdo hfr1 hfr2 hm hm1
    go_enter Try.func47, Try.ntmps47
    go_wp2
    refine bodyPost_ret (v := .tuple #[DiskV (.slice a l.length c) true fuse, .int .i64 13]) (by simp [results, Try.results47, go_sem]) rfl ?_
    exact ⟨_, _, _, l, _, rfl, filesx_old HZF.out (hw.trans ((hbs _).mono hn)), HA1.out, hbs _⟩
  | false =>
  have HA1 := Lib.hid (HA.out.trans (if_neg (by simp)))
  clear HA
  by_cases hwr : wrong ≠ 0
  · have HA2 := Lib.hid (HA1.out.trans (if_pos hwr))
    have hw2 : (wrong != 0) = true := by rw [bne_iff_ne]; exact hwr
    clear hdo hfr1 hfr2 hm hm1 hwr
    go_enter Try.func47, Try.ntmps47
    go_wp2
    refine bodyPost_ret (v := .tuple #[DiskV (.slice a l.length c) false fuse, .int .i64 wrong]) (by simp [results, Try.results47, go_sem]) rfl ?_
    exact ⟨_, _, _, l, _, rfl, filesx_old HZF.out (hw.trans ((hbs _).mono hn)), HA2.out, hbs _⟩
  have HA2 := Lib.hid (HA1.out.trans (if_neg hwr))
  have hwr : wrong = 0 := by simpa using hwr
  subst hwr
  clear HA1
  by_cases hz : fuse = 0
  · have HA3 := Lib.hid (HA2.out.trans (if_pos hz))
    subst hz
    have q1 := is_some hc1
    have q2 := is_some hc2
    clear hdo hm hm1
    go_enter Try.func47, Try.ntmps47
    go_wp2
    refine bodyPost_ret (v := .tuple #[DiskV (.slice a l.length c) true (-1), .int .i64 13]) (by simp [results, Try.results47, go_sem]) rfl ?_
    have hb3 : ∀ X : Obj, Below b w (((w.setCell ⟨b, 1, none⟩ (.bool true)).setCell ⟨b, 2, none⟩ (.int .i64 (-1))).alloc X) := fun X => (below_setC (below_setC (Below.refl b w) (Nat.le_refl b) 1 _) (Nat.le_refl b) 2 _).alloc (by simp only [size_setCell']; omega) X
    exact ⟨_, _, _, l, _, rfl, filesx_old HZF.out (hw.trans ((hb3 _).mono hn)), HA3.out, hb3 _⟩
  have HA3 := Lib.hid (HA2.out.trans (if_neg hz))
  have hz' : (fuse == 0) = false := by rw [beq_eq_false_iff_ne]; exact hz
  have hgen : ∃ f', (if 0 < fuse then fuse - 1 else fuse) = f' ∧ ((0 < fuse ∧ f' = fuse - 1) ∨ (¬ 0 < fuse ∧ f' = fuse)) := by
    refine ⟨_, rfl, ?_⟩
    by_cases h : 0 < fuse
    · exact .inl ⟨h, if_pos h⟩
    · exact .inr ⟨h, if_neg h⟩
  obtain ⟨f', hf', hcase⟩ := hgen
  rw [hf'] at HA3
  have HDO := Lib.hid (fun v1 w1 h1 h2 h3 h4 => hdo rfl f' v1 w1 h1 h2 h3 h4)
  have q2 := is_some hc2
  have hwr1 : IntKind.i64.wrap (fuse - 1) = fuse - 1 := by rw [IntKind.wrap_i64]; omega
  have har := heap_alloc_new w (.cells #[.slice none 0 0, .bool false, .int .i64 0] 35)
  have HROW := Lib.hid (fun (W : World) (h : Below w0.heap.size w0 W) => cloDF_walk (w.heap.size + 1) a l.length c (l.flatMap dfC) W)
  have HFL := Lib.hid (fun (W : World) (h : Below w0.heap.size w0 W) => row_flatK (K := 3) dfC_len (by decide) (HR0.out.1.below h))
  clear hdo hf' HA2 hz
  rcases hcase with ⟨hp, rfl⟩ | ⟨hp, rfl⟩
  · go_enter Try.func47, Try.ntmps47
    go_wp2_with fail
    have hmx : MBox (w.setCell ⟨b, 2, none⟩ (.int .i64 (fuse - 1))) b (.slice a l.length c) false (fuse - 1) := mbox_fuse hm _
    have hwx : Below w0.heap.size w0 (w.setCell ⟨b, 2, none⟩ (.int .i64 (fuse - 1))) := below_setC hw hn 2 _
    have hwb : Below b w (w.setCell ⟨b, 2, none⟩ (.int .i64 (fuse - 1))) := below_setC (Below.refl b w) (Nat.le_refl b) 2 _
    have hsx : (w.setCell ⟨b, 2, none⟩ (.int .i64 (fuse - 1))).heap.size = w.heap.size := size_setCell' _ _ _
    have hkx : ∀ k, k ≠ b → (World.heap (w.setCell ⟨b, 2, none⟩ (.int .i64 (fuse - 1))))[k]? = w.heap[k]? := fun k hk => Below.heap_setCell _ _ _ _ hk
    have hXb := hwb.alloc (show b ≤ ((w.setCell ⟨b, 2, none⟩ (.int .i64 (fuse - 1)))).heap.size by omega) (.cells #[.slice none 0 0, .bool false, .int .i64 0] 35)
    have hX : Below w0.heap.size w0 (World.alloc (w.setCell ⟨b, 2, none⟩ (.int .i64 (fuse - 1))) (.cells #[.slice none 0 0, .bool false, .int .i64 0] 35)) := hwx.alloc (by omega) _
    refine (HROW.out _ hX (by simp only [World.size_alloc]; omega) hcnt (flat_lenK dfC_len l) (HFL.out _ hX) HONE.out).mono ?_
    rintro e w2 ⟨v1, rfl, hown, hb2⟩
    obtain ⟨va, vn, vc, rfl⟩ := own_slice hown
    have hm2 : MBox w2 b (.slice a l.length c) false (fuse - 1) := (hb2.block b (by omega)).trans ((Below.heap_alloc _ _ b (by omega)).trans hmx)
    have hr2 : w2.heap[w.heap.size]? = some (.cells #[.slice none 0 0, .bool false, .int .i64 0] 35 (0, 0)) := (hb2.block _ (by omega)).trans (by rw [← hsx]; exact heap_alloc_new _ _)
    have hk2 : ∀ k, k < w.heap.size → k ≠ b → w2.heap[k]? = w.heap[k]? := fun k h1 h2 => (hb2.block k (by omega)).trans ((Below.heap_alloc _ _ k (by omega)).trans (hkx k h2))
    have hB2 : Below w0.heap.size w0 w2 := hX.trans (hb2.mono (by omega))
    have hB2b : Below b w w2 := hXb.trans (hb2.mono (by omega))
    have hz2 : w.heap.size + 1 ≤ w2.heap.size := by have := hb2.size; simp only [World.size_alloc] at this; omega
    have p0e := heap_cell hm2 (j := 0) (v := .slice a l.length c) rfl
    have p0 := is_some p0e
    have g0 := heap_free hm2 0
    have hm3 := mbox_set hm2 (.slice va vn vc)
    have hown3 := own_set (o := 0) (u := .slice va vn vc) hown (b := b) (by omega)
    have CD := HDO.out _ _ hm3 hown3 (by rw [size_setCell']; exact hz2) (fun k h1 h2 => (Below.heap_setCell _ _ _ _ h2).trans (hk2 k h1 h2))
    have HCD := Lib.hid CD
    have hR3 : (w2.setCell ⟨b, 0, none⟩ (.slice va vn vc)).heap[w.heap.size]? = some (.cells #[.slice none 0 0, .bool false, .int .i64 0] 35 (0, 0)) := (Below.heap_setCell _ _ _ _ (by show w.heap.size ≠ b; omega)).trans hr2
    have hB3 : Below w0.heap.size w0 (w2.setCell ⟨b, 0, none⟩ (.slice va vn vc)) := below_setC hB2 hn 0 _
    clear CD hm3 hown3 hown hkx hsx hwx hmx hX hwb hXb hm1 har hA ha0 ha1 ha2 hbs
    go_wp2_with fail
    refine HCD.out.mono ?_
    rintro e w4 ⟨rfl, v2, l2, hm4, hr4, hl4, hal4, hsame4⟩
    have hr5 := hr4.here
    obtain ⟨a2, c2, hv2, _⟩ := hr5.1
    subst hv2
    have HR4 := Lib.hid hr4
    have hR4 := hsame4.trans hR3
    have c0 := heap_cell hm4 (j := 0) (v := .slice a2 l2.length c2) rfl
    have c1 := heap_cell hm4 (j := 1) (v := .bool false) rfl
    have c2' := heap_cell hm4 (j := 2) (v := .int .i64 (fuse - 1)) rfl
    have d0 := heap_cell hR4 (j := 0) (v := .slice none 0 0) rfl
    have s0 := is_some d0
    have d1 := heap_cell hR4 (j := 1) (v := .bool false) rfl
    have s1 := is_some d1
    have d2 := heap_cell hR4 (j := 2) (v := .int .i64 0) rfl
    have s2 := is_some d2
    have f0 := heap_free hR4 0
    have f1 := heap_free hR4 1
    have f2 := heap_free hR4 2
    have HB4 := Lib.hid ((below_setC hB2b (Nat.le_refl b) 0 (.slice va vn vc)).trans hal4)
    clear hB2b hal4 hsame4 hR4 hm4 hr5 hr4 hm2 hr2 hk2 hB2 hB3 hR3
    go_wp2
    refine bodyPost_ret (v := .tuple #[DiskV (.slice a2 l2.length c2) false (fuse - 1), .int .i64 0]) (by simp [results, Try.results47, go_sem, s0, s1, s2]) rfl ?_
    exact ⟨_, _, _, l2, _, rfl, fun W hW => HR4.out W (fun k hk => by
      have hkr : k ≠ w.heap.size := by rcases hk with ⟨h1, _⟩ | ⟨h1, _⟩ <;> omega
      exact (hW k (by rw [size_setCell', size_setCell', size_setCell']; exact hk)).trans (((Below.heap_setCell _ _ _ _ hkr).trans (Below.heap_setCell _ _ _ _ hkr)).trans (Below.heap_setCell _ _ _ _ hkr))), by rw [HA3.out, hl4], below_setC (below_setC (below_setC HB4.out (by omega) 0 _) (by omega) 1 _) (by omega) 2 _⟩
  · go_enter Try.func47, Try.ntmps47
    go_wp2_with fail
    have hmx : MBox w b (.slice a l.length c) false f' := hm
    have hwx : Below w0.heap.size w0 w := hw
    have hwb : Below b w w := Below.refl b w
    have hsx : w.heap.size = w.heap.size := rfl
    have hkx : ∀ k, k ≠ b → (World.heap w)[k]? = w.heap[k]? := fun _ _ => rfl
    have hXb := hwb.alloc (show b ≤ (w).heap.size by omega) (.cells #[.slice none 0 0, .bool false, .int .i64 0] 35)
    have hX : Below w0.heap.size w0 (World.alloc w (.cells #[.slice none 0 0, .bool false, .int .i64 0] 35)) := hwx.alloc (by omega) _
    refine (HROW.out _ hX (by simp only [World.size_alloc]; omega) hcnt (flat_lenK dfC_len l) (HFL.out _ hX) HONE.out).mono ?_
    rintro e w2 ⟨v1, rfl, hown, hb2⟩
    obtain ⟨va, vn, vc, rfl⟩ := own_slice hown
    have hm2 : MBox w2 b (.slice a l.length c) false f' := (hb2.block b (by omega)).trans ((Below.heap_alloc _ _ b (by omega)).trans hmx)
    have hr2 : w2.heap[w.heap.size]? = some (.cells #[.slice none 0 0, .bool false, .int .i64 0] 35 (0, 0)) := (hb2.block _ (by omega)).trans (by rw [← hsx]; exact heap_alloc_new _ _)
    have hk2 : ∀ k, k < w.heap.size → k ≠ b → w2.heap[k]? = w.heap[k]? := fun k h1 h2 => (hb2.block k (by omega)).trans ((Below.heap_alloc _ _ k (by omega)).trans (hkx k h2))
    have hB2 : Below w0.heap.size w0 w2 := hX.trans (hb2.mono (by omega))
    have hB2b : Below b w w2 := hXb.trans (hb2.mono (by omega))
    have hz2 : w.heap.size + 1 ≤ w2.heap.size := by have := hb2.size; simp only [World.size_alloc] at this; omega
    have p0e := heap_cell hm2 (j := 0) (v := .slice a l.length c) rfl
    have p0 := is_some p0e
    have g0 := heap_free hm2 0
    have hm3 := mbox_set hm2 (.slice va vn vc)
    have hown3 := own_set (o := 0) (u := .slice va vn vc) hown (b := b) (by omega)
    have CD := HDO.out _ _ hm3 hown3 (by rw [size_setCell']; exact hz2) (fun k h1 h2 => (Below.heap_setCell _ _ _ _ h2).trans (hk2 k h1 h2))
    have HCD := Lib.hid CD
    have hR3 : (w2.setCell ⟨b, 0, none⟩ (.slice va vn vc)).heap[w.heap.size]? = some (.cells #[.slice none 0 0, .bool false, .int .i64 0] 35 (0, 0)) := (Below.heap_setCell _ _ _ _ (by show w.heap.size ≠ b; omega)).trans hr2
    have hB3 : Below w0.heap.size w0 (w2.setCell ⟨b, 0, none⟩ (.slice va vn vc)) := below_setC hB2 hn 0 _
    clear CD hm3 hown3 hown hkx hsx hwx hmx hX hwb hXb hm1 har hA ha0 ha1 ha2 hbs
    go_wp2_with fail
    refine HCD.out.mono ?_
    rintro e w4 ⟨rfl, v2, l2, hm4, hr4, hl4, hal4, hsame4⟩
    have hr5 := hr4.here
    obtain ⟨a2, c2, hv2, _⟩ := hr5.1
    subst hv2
    have HR4 := Lib.hid hr4
    have hR4 := hsame4.trans hR3
    have c0 := heap_cell hm4 (j := 0) (v := .slice a2 l2.length c2) rfl
    have c1 := heap_cell hm4 (j := 1) (v := .bool false) rfl
    have c2' := heap_cell hm4 (j := 2) (v := .int .i64 f') rfl
    have d0 := heap_cell hR4 (j := 0) (v := .slice none 0 0) rfl
    have s0 := is_some d0
    have d1 := heap_cell hR4 (j := 1) (v := .bool false) rfl
    have s1 := is_some d1
    have d2 := heap_cell hR4 (j := 2) (v := .int .i64 0) rfl
    have s2 := is_some d2
    have f0 := heap_free hR4 0
    have f1 := heap_free hR4 1
    have f2 := heap_free hR4 2
    have HB4 := Lib.hid ((below_setC hB2b (Nat.le_refl b) 0 (.slice va vn vc)).trans hal4)
    clear hB2b hal4 hsame4 hR4 hm4 hr5 hr4 hm2 hr2 hk2 hB2 hB3 hR3
    go_wp2
    refine bodyPost_ret (v := .tuple #[DiskV (.slice a2 l2.length c2) false f', .int .i64 0]) (by simp [results, Try.results47, go_sem, s0, s1, s2]) rfl ?_
    exact ⟨_, _, _, l2, _, rfl, fun W hW => HR4.out W (fun k hk => by
      have hkr : k ≠ w.heap.size := by rcases hk with ⟨h1, _⟩ | ⟨h1, _⟩ <;> omega
      exact (hW k (by rw [size_setCell', size_setCell', size_setCell']; exact hk)).trans (((Below.heap_setCell _ _ _ _ hkr).trans (Below.heap_setCell _ _ _ _ hkr)).trans (Below.heap_setCell _ _ _ _ hkr))), by rw [HA3.out, hl4], below_setC (below_setC (below_setC HB4.out (by omega) 0 _) (by omega) 1 _) (by omega) 2 _⟩
end Go.Proofs.Ythjoaoakadaieaa
