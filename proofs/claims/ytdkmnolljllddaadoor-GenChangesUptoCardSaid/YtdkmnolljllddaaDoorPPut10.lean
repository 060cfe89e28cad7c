/- The program's Put of trees. -/
import Derived.Test.YtdkmnolljllddaaDoorPWrong
import Derived.Test.YtdkmnolljllddaaDoorInsItem
import Derived.Test.YtdkmnolljllddaaDoorCloItem
import Derived.Test.YtdkmnolljllddaaDoorTreePlain2
namespace Go.Proofs.YtdkmnolljllddaaDoor
open Go.RowKit

theorem it_splice {l : List Itm} {L : List Value} (h : L.take (l.length * 4) = l.flatMap itC) (hL : l.length * 4 ≤ L.length) {k : Nat} (hk : k < l.length) (x : Itm) :
    (splice L (k * 4) (itC x)).take (l.length * 4) = (l.take k ++ x :: l.drop (k + 1)).flatMap itC := by
  have hf : ∀ x, (itC x).length = 4 := fun _ => rfl
  have e1 := head_start hf h (b := k) (by omega)
  have e2 := rest_start hf h (k + 1)
  unfold splice
  rw [List.flatMap_append, List.flatMap_cons, ← e1, ← e2, hf, List.take_append, List.take_append]
  have h1 : (L.take (k * 4)).length = k * 4 := by rw [List.length_take]; omega
  rw [h1, hf, List.take_of_length_le (l := L.take (k * 4)) (by omega), List.take_of_length_le (l := itC x) (by rw [hf]; omega)]
  rw [show (k + 1) * 4 = k * 4 + 4 by omega, show (l.length - (k + 1)) * 4 = l.length * 4 - k * 4 - 4 by omega]
theorem it_ins (l : List Itm) (x : Itm) (k : Nat) : (l.flatMap itC).take (k * 4) ++ (itC x ++ (l.flatMap itC).drop (k * 4)) = (l.take k ++ x :: l.drop k).flatMap itC := by
  rw [flat_take (K := 4) (fun _ => rfl), flat_drop (K := 4) (fun _ => rfl), List.flatMap_append, List.flatMap_cons]

set_option maxHeartbeats 4000000 in
set_option maxRecDepth 100000 in
theorem pput10_walk (v : Value) (l : List Itm) (x : Itm) (w : World) (hr : ItRow w v l) (hcnt : l.length ≤ 100000) (hu : upT (l.map (·.1))) (hs : sizeT l ≤ 1000000000) (hM : Mx w) (hpl : ∀ x ∈ l, x.1.length ≤ 1100000) (hx1 : x.1.length ≤ 1100000) (hx4 : x.2.2.2.length ≤ 1100000) :
    Calls Tryd.prog 45 #[v, ItV x] w fun e w' => ∃ v', e = .returned (.tuple #[v', .int .i64 (putT l x).2]) ∧ ItRow w' v' (putT l x).1 ∧ Below w.heap.size w w' := by
  have HNO := Lib.hid (fun c (h : wrongT l x = c) (hc : c ≠ 0) => putT_wrong h hc)
  have HYES := Lib.hid (fun (h : wrongT l x = 0) => putT_ok h)
  have HWITH := Lib.hid (withT_at (x := x) hu)
  have hposl : posT (l.map (·.1)) x.1 ≤ l.length := by
    have := (List.takeWhile_sublist (l := l.map (·.1)) (fun k => ltP k x.1)).length_le
    unfold posT; simpa using this
  have hposi : decide (x.1 ∈ l.map (·.1)) = true → posT (l.map (·.1)) x.1 < l.length := fun h => (pos_find hu (of_decide_eq_true h)).1
  have hB0 : Below w.heap.size w ((w.alloc (.cells #[S x.1, .bool x.2.1, .bool x.2.2.1, S x.2.2.2] 32)).alloc (.cells #[v] 107)) := ((Below.refl _ _).alloc (Nat.le_refl _) _).alloc (by simp) _
  obtain ⟨w1, hw1, hB1, hr0, hk0⟩ : ∃ w1, w1 = (w.alloc (.cells #[S x.1, .bool x.2.1, .bool x.2.2.1, S x.2.2.2] 32)).alloc (.cells #[v] 107) ∧ Below w.heap.size w w1 ∧ w1.heap[w.heap.size]? = some (.cells #[S x.1, .bool x.2.1, .bool x.2.2.1, S x.2.2.2] 32 (0, 0)) ∧ w1.heap[w.heap.size + 1]? = some (.cells #[v] 107 (0, 0)) :=
    ⟨_, rfl, hB0, heap_later (heap_alloc_new _ _) ((Below.refl _ _).alloc (Nat.le_refl _) _) (by simp), by simpa only [World.size_alloc] using heap_alloc_new (w.alloc (.cells #[S x.1, .bool x.2.1, .bool x.2.2.1, S x.2.2.2] 32)) (.cells #[v] 107)⟩
  have hb1s := hB1.size
  obtain ⟨⟨r0, r1, r2, r3⟩, -, -⟩ := box4 hr0
  have r8 := heap_cell hk0 (j := 0) (v := v) rfl
  have CW := pwrong_walk (w.heap.size + 1) v l x w1 hk0 (hr.below hB1) (by omega) hu hs (hM.below hB1) hpl hx1 hx4
  have CAT := fun w h h2 => pat10_walk v l x.1 w h (by omega) hu h2 hx1 hpl
  have HR := Lib.hid hr
  clear hB0 hr0 hk0
  obtain ⟨p, dd, ex, dt⟩ := x
  simp only at r0 r1 r2 r3 hw1 hposl hposi HWITH CAT
  generalize putT l (p, dd, ex, dt) = de at *
  generalize withT l (p, dd, ex, dt) = wi at *
  generalize wrongT l (p, dd, ex, dt) = wr at *
  generalize posT (l.map (fun x => x.1)) p = k at *
  have HMEM := Lib.hid (show (decide (p ∈ l.map (·.1)) = true → wi = l.take k ++ (p, dd, ex, dt) :: l.drop (k + 1)) ∧ (decide (p ∈ l.map (·.1)) = false → wi = l.take k ++ (p, dd, ex, dt) :: l.drop k) from
    ⟨fun h => HWITH.out.trans (by rw [if_pos (of_decide_eq_true h)]), fun h => HWITH.out.trans (by rw [if_neg (of_decide_eq_false h)])⟩)
  clear HWITH
  generalize decide (p ∈ l.map (fun x => x.1)) = is at *
  obtain ⟨a, c, rfl, hc, hm, hx⟩ := hr
  clear hx
  go_enter Tryd.func45, Tryd.ntmps45
  go_upto_region 2 with fail
  rw [← hw1]
  clear hw1
  go_wp2_with fail
  refine CW.mono ?_
  rintro e w2 ⟨rfl, hb2⟩
  clear CW
  (replace r0 := cell_below hb2 r0; replace r1 := cell_below hb2 r1; replace r2 := cell_below hb2 r2; replace r3 := cell_below hb2 r3; replace r8 := cell_below hb2 r8; replace hB1 := below_chain hB1 hb2 hB1.size; clear hb2)
  by_cases h0 : wr = 0
  · have h0' : (wr != 0) = false := by rw [bne_eq_false_iff_eq]; exact h0
    have HD := Lib.hid (HYES.out h0)
    clear h0 HNO HYES
    have h2s := hB1.size
    have CC := cloItm_walk w2.heap.size a l.length c (l.flatMap itC) w2 (Nat.le_refl _) (by omega) (flat_lenK (f := itC) (K := 4) (fun _ => rfl) l) (row_flatK (K := 4) (fun _ => rfl) (by decide) (HR.out.below hB1)) (it_one l)
    go_wp2_with fail
    refine CC.mono ?_
    rintro e w3 ⟨v3, rfl, hown3, hb3⟩
    have h3s := hb3.size
    clear CC
    (replace r0 := cell_below hb3 r0; replace r1 := cell_below hb3 r1; replace r2 := cell_below hb3 r2; replace r3 := cell_below hb3 r3; replace r8 := cell_below hb3 r8; replace hB1 := below_chain hB1 hb3 hB1.size; clear hb3)
    go_upto_region 6 with fail
    have q0 := LaterOf.cell r0
    have q8 := LaterOf.cell r8
    have CA := fun q : LaterOf w3 => CAT q.world ((HR.out.below hB1).below q.below) ((hM.below hB1).below q.below)
    (refine wp_region_later (by kernel_rfl) (by kernel_rfl) ?_; (repeat (go_big_quiet_step ((go_at_call 75; exact LaterOf.call _ (CA _))))); refine wpQuiet_nil ?_; intro _ hw1; obtain ⟨lw, hw2⟩ := hw1; subst hw2)
    have hB4 := below_chain hB1 lw.below hB1.size
    have s0 := q0 lw
    have s8 := q8 lw
    have s1 := LaterOf.cell r1 lw
    have s2 := LaterOf.cell r2 lw
    have s3 := LaterOf.cell r3 lw
    have hown4 := own_on hown3 lw.below
    have hs4 := lw.below.size
    have hB4s := hB4.size
    generalize lw.world = w4 at *
    clear q0 q8 CA CAT r0 r1 r2 r3 r8 hown3
    cases is with
    | true =>
      have hk : k < l.length := hposi rfl
      have HWI := Lib.hid (HMEM.out.1 rfl)
      clear HMEM hposi hposl
      obtain ⟨hl4, ho4⟩ := hown4
      rcases ho4 with ⟨rfl, hn⟩ | ⟨g, cap, cur, rfl, hbg, hg, hnc, hcapm, hcs, htake⟩
      · omega
      have hf1 := heap_free hg
      obtain ⟨u1, hu1⟩ := heap_has hg (j := k * 4) (by omega)
      obtain ⟨u2, hu2⟩ := heap_has hg (j := k * 4 + 1) (by omega)
      obtain ⟨u3, hu3⟩ := heap_has hg (j := k * 4 + 2) (by omega)
      obtain ⟨u4, hu4⟩ := heap_has hg (j := k * 4 + 3) (by omega)
      have hk' : (k : Int) < (l.length : Int) := by omega
      have HTK := Lib.hid htake
      clear htake
      go_wp2
      go_ret2
      rw [HD.out]
      refine ⟨.slice (some ⟨g, 0, none⟩) l.length cap, rfl, ?_, below_setT (below_setT (below_setT (below_setT hB4 (by omega) _ _) (by omega) _ _) (by omega) _ _) (by omega) _ _⟩
      rw [HWI.out]
      have hlen : (l.take k ++ (p, dd, ex, dt) :: l.drop (k + 1)).length = l.length := by simp; omega
      refine Row.of_ownsK (K := 4) (base := w2.heap.size) (e := 32) (fun _ => rfl) ?_
      have hsp := setAll_splice (itC (p, dd, ex, dt)) cur (k * 4) (by simp; omega)
      refine ⟨flat_lenK (f := itC) (K := 4) (fun _ => rfl) _, .inr ⟨g, cap, setAll cur (k * 4) (itC (p, dd, ex, dt)), by rw [hlen], hbg, heap_set_cell (heap_set_cell (heap_set_cell (heap_set_cell hg _) _) _) _, by rw [hlen]; exact hnc, hcapm, ?_, ?_⟩⟩
      · rw [← Array.length_toList, hsp, length_splice _ _ _ (by simp; omega)]; simpa using hcs
      · rw [hlen, hsp, it_splice HTK.out (by simp; omega) hk]
    | false =>
      have HWI := Lib.hid (HMEM.out.2 rfl)
      clear HMEM hposi
      have hlt4 : ∀ vb, v3.ownBlock = some vb → vb < w4.heap.size := fun vb h => (hown4.lt vb h).2
      have CI := insItm_walk w2.heap.size v3 l.length k w4.heap.size (l.flatMap itC) [S p, .bool dd, .bool ex, S dt] (w4.alloc (.cells #[S p, .bool dd, .bool ex, S dt] 32)) (hown4.alloc _) hposl (by simp; omega) (by omega) rfl (heap_alloc_new _ _) (it4_one (p, dd, ex, dt)) (it_one l) (fun h => by have := hlt4 _ h; omega)
      go_wp2_with fail
      refine CI.mono ?_
      rintro e w5 ⟨v5, rfl, hown5, hb5⟩
      go_wp2
      go_ret2
      rw [HD.out]
      refine ⟨_, rfl, ?_, (hB4.alloc hB4s _).trans (hb5.mono h2s)⟩
      rw [HWI.out]
      have hlen : (l.take k ++ (p, dd, ex, dt) :: l.drop k).length = l.length + 1 := by simp; omega
      refine Row.of_ownsK (K := 4) (base := w2.heap.size) (e := 32) (fun _ => rfl) ?_
      rw [hlen, ← it_ins]
      exact hown5
  · have h0' : (wr != 0) = true := by rw [bne_iff_ne]; exact h0
    have HD := Lib.hid (HNO.out wr rfl h0)
    clear h0 HNO HYES
    go_wp2
    go_ret2
    exact ⟨_, by rw [HD.out]; rfl, by rw [HD.out]; exact HR.out.below hB1, hB1⟩
end Go.Proofs.YtdkmnolljllddaaDoor
