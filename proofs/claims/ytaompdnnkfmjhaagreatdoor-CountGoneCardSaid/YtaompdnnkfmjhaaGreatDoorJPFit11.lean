/- Regions that draw their order: loads of cells that stay are taken first; then the calls, one by one. The program's Fit of nodes. -/
import Derived.Test.YtaompdnnkfmjhaaGreatDoorJPlain
import Derived.OrdersHeld
import Derived.RegionTactic
import Derived.Test.YtaompdnnkfmjhaaGreatDoorJRdE
import Derived.Test.YtaompdnnkfmjhaaGreatDoorJR11
import Derived.Test.YtaompdnnkfmjhaaGreatDoorJAny
namespace Go.Proofs.YtaompdnnkfmjhaaGreatDoor
open Go Go.RowKit

abbrev LaterS (w : World) (w' : World) : Prop := ∃ p : LaterOf w, w' = p.world
theorem wp_held {P : Program} {id : Nat} {ops : Array Oper} {Q : Exit → Act → World → Prop} {a : Act} {w : World} (hm : P.follows .mixedOrders = true)
    (h : ∀ lw : LaterOf w, wpAnyH P .any ops Q (LaterS w) ops.size (Array.replicate ops.size false) a lw.world) : (Code.region id ops true).wp P Q a w :=
  wp_region_held hm (h ⟨{ w with drawn := w.drawn + 1 }, ⟨rfl, rfl, rfl, Nat.le_refl _, fun _ _ => rfl⟩⟩)
section
variable {P : Program} {ops : Array Oper} {md : Region.Mode} {Q : Exit → Act → World → Prop} {S : World → Prop}
theorem wpAnyH_one {i : Nat} {o : Oper} {fuel : Nat} {listed : Array Bool} {a : Act} {w : World} (hr : Region.ready md ops listed = [i]) (ho : ops[i]? = some o)
    (h : ∀ K' : Act → World → Prop, (∀ a w, S w → wpAnyH P md ops Q S fuel (listed.setIfInBounds i true) a w → K' a w) → if Region.wanted o (yielded ops a.tmps) = true then Oper.wp P o a w K' Q else K' (a.put o.dst undef) w) :
    wpAnyH P md ops Q S (fuel + 1) listed a w :=
  wpAnyH_all hr (by simp) fun j hj => by
    obtain rfl := List.mem_singleton.1 hj
    exact wpOp_step ho fun K' hK => h K' fun a w h1 h2 => hK a w ⟨h1, h2⟩
theorem wpAnyH_two {i j : Nat} {o o' : Oper} {fuel : Nat} {listed : Array Bool} {a : Act} {w : World} (hr : Region.ready md ops listed = [i, j]) (ho : ops[i]? = some o) (ho' : ops[j]? = some o')
    (h : ∀ K' : Act → World → Prop, (∀ a w, S w → wpAnyH P md ops Q S fuel (listed.setIfInBounds i true) a w → K' a w) → if Region.wanted o (yielded ops a.tmps) = true then Oper.wp P o a w K' Q else K' (a.put o.dst undef) w)
    (h' : ∀ K' : Act → World → Prop, (∀ a w, S w → wpAnyH P md ops Q S fuel (listed.setIfInBounds j true) a w → K' a w) → if Region.wanted o' (yielded ops a.tmps) = true then Oper.wp P o' a w K' Q else K' (a.put o'.dst undef) w) :
    wpAnyH P md ops Q S (fuel + 1) listed a w :=
  wpAnyH_all hr (by simp) fun x hx => by
    rcases List.mem_cons.1 hx with rfl | hx
    · exact wpOp_step ho fun K' hK => h K' fun a w h1 h2 => hK a w ⟨h1, h2⟩
    · obtain rfl := List.mem_singleton.1 hx
      exact wpOp_step ho' fun K' hK => h' K' fun a w h1 h2 => hK a w ⟨h1, h2⟩
end
end Go.Proofs.YtaompdnnkfmjhaaGreatDoor

namespace Go.Proofs.YtaompdnnkfmjhaaGreatDoor
open Go.RowKit

set_option maxHeartbeats 2000000 in
set_option maxRecDepth 100000 in
theorem badPart_walk (p : Prt) (w : World) : Calls Tryz.prog 130 #[PrtV p] w fun e w' => e = .returned (.bool (!partOk p)) ∧ Below w.heap.size w w' := by
  obtain ⟨key, sz⟩ := p
  have HD := Lib.hid (show partOk (key, sz) = (key.length == 32 && (decide (1 ≤ sz) && decide (sz ≤ 4096))) from rfl)
  generalize partOk (key, sz) = res at *
  have HB := Lib.hid (show Below w.heap.size w (w.alloc (.cells #[S key, .int .i64 sz] 78)) from (Below.refl _ _).alloc (Nat.le_refl _) _)
  have r0 := cell_new w #[S key, .int .i64 sz] 78 0 rfl
  have r1 := cell_new w #[S key, .int .i64 sz] 78 1 rfl
  by_cases h1 : key.length = 32
  · have h1' : ((key.length : Int) != 32) = false := by rw [bne_eq_false_iff_eq]; omega
    by_cases h2 : sz < 1
    · have HF := Lib.hid (show (!res) = true by rw [HD.out, decide_eq_false (show ¬ 1 ≤ sz by omega)]; simp)
      clear h1
      go_enter Tryz.func130, Tryz.ntmps130
      go_wp2
      go_ret
      exact ⟨by rw [HF.out]; rfl, HB.out⟩
    · by_cases h3 : 4096 < sz
      · have HF := Lib.hid (show (!res) = true by rw [HD.out, decide_eq_false (show ¬ sz ≤ 4096 by omega)]; simp)
        clear h1
        go_enter Tryz.func130, Tryz.ntmps130
        go_wp2
        go_ret
        exact ⟨by rw [HF.out]; rfl, HB.out⟩
      · have HF := Lib.hid (show (!res) = false by rw [HD.out, decide_eq_true (show 1 ≤ sz by omega), decide_eq_true (show sz ≤ 4096 by omega)]; simp [h1])
        clear h1
        go_enter Tryz.func130, Tryz.ntmps130
        go_wp2
        go_ret
        exact ⟨by rw [HF.out]; rfl, HB.out⟩
  · have h1' : ((key.length : Int) != 32) = true := by rw [bne_iff_ne]; omega
    have HF := Lib.hid (show (!res) = true by rw [HD.out]; simp [h1])
    clear h1
    go_enter Tryz.func130, Tryz.ntmps130
    go_wp2
    go_ret
    exact ⟨by rw [HF.out]; rfl, HB.out⟩

set_option maxHeartbeats 4000000 in
set_option maxRecDepth 100000 in
theorem badEntry_walk (e : Ent) (w : World) (hn : e.1.length ≤ 1100000) : Calls Tryz.prog 133 #[EntV e] w fun ed w' => ed = .returned (.bool (!entOk e)) ∧ Below w.heap.size w w' := by
  obtain ⟨nm, kd, ex, key⟩ := e
  have HD := Lib.hid (show entOk (nm, kd, ex, key) = ((kd == 2 || kd == 3 && !ex) && (key.length == 32 && nameB nm)) from rfl)
  generalize entOk (nm, kd, ex, key) = res at *
  obtain ⟨w1, hw1, hB1, hz⟩ : ∃ w1, w1 = w.alloc (.cells #[S nm, .int .i64 kd, .bool ex, S key] 82) ∧ Below w.heap.size w w1 ∧ w1.heap[w.heap.size]? = some (.cells #[S nm, .int .i64 kd, .bool ex, S key] 82 (0, 0)) :=
    ⟨_, rfl, (Below.refl _ _).alloc (Nat.le_refl _) _, heap_alloc_new _ _⟩
  have CN := name_walk nm w1 hn
  generalize nameB nm = nb at *
  obtain ⟨⟨z0, z1, z2, z3⟩, -, -⟩ := box4 hz
  obtain ⟨b2, f2⟩ : ∃ q, (kd == 2) = q := ⟨_, rfl⟩
  obtain ⟨b3, f3⟩ : ∃ q, (kd == 3) = q := ⟨_, rfl⟩
  obtain ⟨bk, fk⟩ : ∃ q, ((key.length : Int) != 32) = q := ⟨_, rfl⟩
  have HD2 := Lib.hid (show (!res) = !((b2 || b3 && !ex) && (!bk && nb)) by
    have ek : (key.length == 32) = !bk := by rw [← fk, bne, Bool.not_not, Bool.eq_iff_iff, beq_iff_eq, beq_iff_eq]; omega
    rw [HD.out, f2, f3, ek])
  clear HD hz
  cases b2 <;> cases b3 <;> cases ex <;> cases bk
  all_goals
    go_enter Tryz.func133, Tryz.ntmps133
    go_upto_region 1 with fail
    rw [← hw1]
    clear hw1
    first
      | (go_wp2; go_ret; exact ⟨by rw [HD2.out]; rfl, hB1⟩)
      | (go_wp2_with (go_at_call 151; refine (CN).mono ?_; rintro e w2 ⟨rfl, hb2⟩); go_ret; exact ⟨by rw [HD2.out]; cases nb <;> rfl, below_chain hB1 hb2 hB1.size⟩)

noncomputable def risesB (l : List Ent) : Bool := @decide (risesE l) (Classical.propDecidable _)
theorem risesB_iff {l : List Ent} : risesB l = true ↔ risesE l := by unfold risesB; exact @decide_eq_true_iff _ (Classical.propDecidable _)
theorem risesB_no {l : List Ent} (h : ¬ risesE l) : risesB l = false := by
  cases e : risesB l with
  | false => rfl
  | true => exact absurd (risesB_iff.1 e) h

set_option maxHeartbeats 2000000 in
set_option maxRecDepth 100000 in
theorem rises_walk (v : Value) (l : List Ent) (w : World) (hr : EntRow w v l) (hcnt : l.length ≤ 2000) :
    Calls Tryz.prog 134 #[v] w fun e w' => e = .returned (.bool (risesB l)) ∧ Below w.heap.size w w' := by
  have HN := Lib.hid (fun h : ¬ risesE l => risesB_no h)
  have HY := Lib.hid (fun h : risesE l => risesB_iff.2 h)
  generalize risesB l = res at *
  obtain ⟨a, c, rfl, hc, hm, hx⟩ := hr
  have HX := Lib.hid hx
  clear hx
  go_enter Tryz.func134, Tryz.ntmps134
  go_wp2
  go_loopw [3] (fun i wr => ∃ k : Nat, i = .int .i64 ((k + 1 : Nat) : Int) ∧ k ≤ l.length ∧ risesE (l.take (k + 1)) ∧ Below w.heap.size w wr) (fun i _ => l.length + 1 - (intOf i).toNat)
  case atStart => exact ⟨0, rfl, Nat.zero_le _, by unfold risesE; cases l <;> simp, Below.refl _ _⟩
  case round =>
    obtain ⟨k, rfl, hk, hu, hB⟩ := hrel
    have HU := Lib.hid hu
    have HB := Lib.hid hB
    clear hu
    by_cases h1 : k + 1 < l.length
    · have h1' : ((k + 1 : Nat) : Int) < (l.length : Int) := by omega
      have h0' : (k : Int) < (l.length : Int) := by omega
      have h0 : k < l.length := by omega
      have hx := HX.out
      rcases hx with hx | ⟨b, o, rfl, hx⟩
      · exfalso; rw [hx] at h1; simp at h1
      have hc1 := cell_below hB (ent_cells hx h1).1
      have hc2 := cell_below hB (ent_cells hx h0).1
      have HST := Lib.hid (fun h : l[k].1 < l[k + 1].1 => dir_step h1 HU.out (fun _ => h))
      have HDN := Lib.hid (fun h : ¬ l[k].1 < l[k + 1].1 => HN.out (dir_not h1 (Nat.succ_pos k) h))
      have hwr : IntKind.i64.wrap (k : Int) = (k : Int) := by rw [IntKind.wrap_i64]; omega
      clear hx hB
      generalize l[k + 1].1 = y at *
      generalize l[k].1 = x at *
      have hcase : (x < y ∧ Op.bytesLess x y = true) ∨ (¬ x < y ∧ Op.bytesLess x y = false) := by
        rw [bytesLess_eq]
        by_cases h : x < y
        · exact .inl ⟨h, by simpa using h⟩
        · exact .inr ⟨h, by simpa using h⟩
      rcases hcase with ⟨hlt, hbl⟩ | ⟨hlt, hbl⟩
      · have HF := Lib.hid (HST.out hlt)
        clear hlt HST HDN
        go_wp2
        go_quiet (fail)
        go_wp2
        go_roundw
        case rel => exact ⟨k + 1, by go_num, by omega, HF.out, belowN HB.out _⟩
        case measure => simp [intOf]; omega
      · have HF := Lib.hid (HDN.out hlt)
        clear hlt HST HDN
        go_wp2
        go_quiet (fail)
        go_wp2
        go_ret
        exact ⟨by rw [HF.out]; rfl, belowN HB.out _⟩
    · have h1' : ¬ ((k + 1 : Nat) : Int) < (l.length : Int) := by omega
      have HF := Lib.hid (HY.out (by have := HU.out; rwa [List.take_of_length_le (by omega)] at this))
      go_wp2
      go_ret
      exact ⟨by rw [HF.out]; rfl, HB.out⟩

set_option maxHeartbeats 2000000 in
set_option maxRecDepth 100000 in
theorem whole_walk (v : Value) (l : List Prt) (w : World) (hr : PrtRow w v l) (hcnt : l.length ≤ 2000) (hok : l.all partOk = true) :
    Calls Tryz.prog 131 #[v] w fun e w' => e = .returned (.int .i64 (wholeP l)) ∧ Below w.heap.size w w' := by
  obtain ⟨a, c, rfl, hc, hm, hx⟩ := hr
  have HX := Lib.hid hx
  have HOK := Lib.hid hok
  clear hx hok
  go_enter Tryz.func131, Tryz.ntmps131
  go_wp2
  go_loopw [3, 8] (fun n i wr => ∃ k : Nat, k ≤ l.length ∧ i = .int .i64 k ∧ n = .int .i64 (wholeP (l.take k)) ∧ Below w.heap.size w wr) (fun _ i _ => l.length - (intOf i).toNat)
  case atStart => exact ⟨0, Nat.zero_le _, rfl, by simp [wholeP], Below.refl _ _⟩
  case round =>
    obtain ⟨k, hk, rfl, rfl, hB⟩ := hrel
    have hwb := fun j => whole_bound (l.take j) (by
      have := HOK.out
      rw [List.all_eq_true] at this ⊢
      exact fun x hx => this x (List.mem_of_mem_take hx))
    by_cases h1 : k < l.length
    · have h1' : (k : Int) < (l.length : Int) := by omega
      have hx := HX.out
      rcases hx with hx | ⟨b, o, rfl, hx⟩
      · exfalso; rw [hx] at h1; simp at h1
      obtain ⟨hc1, hc2⟩ := prt_cells hx h1
      replace hc1 := cell_below hB hc1
      replace hc2 := cell_below hB hc2
      have HW := Lib.hid (whole_step h1)
      have hw2 := hwb (k + 1)
      rw [HW.out, List.length_take] at hw2
      have HBA := Lib.hid (show Below w.heap.size w (wr.alloc (.cells #[S l[k].1, .int .i64 l[k].2] 78)) from hB.alloc hB.size _)
      clear hx hB hwb
      generalize wholeP (l.take k) = wh at *
      generalize l[k] = y at *
      obtain ⟨key, sz⟩ := y
      simp only at hc1 hc2 HW hw2
      have r1 := cell_new wr #[S key, .int .i64 sz] 78 1 rfl
      have hwr : IntKind.i64.wrap (wh + sz) = wh + sz := by rw [IntKind.wrap_i64]; omega
      go_wp2
      go_roundw
      case rel => exact ⟨k + 1, by omega, by go_num, by rw [HW.out], HBA.out⟩
      case measure => simp [intOf]; omega
    · have h1' : ¬ (k : Int) < (l.length : Int) := by omega
      obtain rfl : k = l.length := by omega
      rw [List.take_of_length_le (Nat.le_refl _)]
      clear hwb
      go_wp2
      go_ret
      exact ⟨rfl, hB⟩

theorem any_bad {α : Type} {ok : α → Bool} (l : List α) : (l.any fun x => !ok x) = !(l.all ok) := by
  induction l with
  | nil => rfl
  | cons x l ih => rw [List.any_cons, List.all_cons, ih, Bool.not_and]
theorem dirB_eq (l : List Ent) : dirB l = (l.all entOk && risesB l) := by
  rw [Bool.eq_iff_iff, dirB_iff, Bool.and_eq_true, List.all_eq_true, risesB_iff]

set_option maxHeartbeats 8000000 in
set_option maxRecDepth 100000 in
theorem pfit11_walk (vp ve : Value) (n : Nod) (w : World) (hr : NodRow w n vp ve) (hd : n.data.length ≤ 1100000) (hp : n.parts.length ≤ 1100000) (he : n.ents.length ≤ 1100000) (hnl : ∀ e ∈ n.ents, e.1.length ≤ 1100000) :
    Calls Tryz.prog 104 #[NodV n vp ve] w fun e w' => e = .returned (.bool (fitN n)) ∧ Below w.heap.size w w' := by
  obtain ⟨kd, d, ps, es⟩ := n
  simp only at hd hp he hnl
  obtain ⟨w1, hw1, hB1, hz⟩ : ∃ w1, w1 = w.alloc (.cells #[.int .i64 kd, S d, vp, ve] 36) ∧ Below w.heap.size w w1 ∧ w1.heap[w.heap.size]? = some (.cells #[.int .i64 kd, S d, vp, ve] 36 (0, 0)) :=
    ⟨_, rfl, (Below.refl _ _).alloc (Nat.le_refl _) _, heap_alloc_new _ _⟩
  have CHP := fun W h => hasPrt_walk 130 #[] (fun x => !partOk x) vp ps W h hp (enters_of Tryz.func130 (by kernel_rfl) rfl) (fun x _ w' _ => badPart_walk x w')
  have CHE := fun W h => hasEnt_walk 133 #[] (fun x => !entOk x) ve es W h he (enters_of Tryz.func133 (by kernel_rfl) rfl) (fun x hx w' _ => badEntry_walk x w' (hnl x hx))
  rw [any_bad] at CHP CHE
  have HR := Lib.hid hr
  have HR1 := Lib.hid (hr.below hB1)
  obtain ⟨a1, c1, rfl⟩ := row_slice hr.parts
  obtain ⟨a2, c2, rfl⟩ := row_slice hr.ents
  clear hr hnl
  simp only at HR1
  have l0 := LaterOf.cell (box4 hz).1.1
  have l1 := LaterOf.cell (box4 hz).1.2.1
  have l2 := LaterOf.cell (box4 hz).1.2.2.1
  have l3 := LaterOf.cell (box4 hz).1.2.2.2
  have hsum1 : IntKind.i64.wrap ((ps.length : Int) + (es.length : Int)) = (ps.length : Int) + (es.length : Int) := by rw [IntKind.wrap_i64]; omega
  have hsum2 : IntKind.i64.wrap ((d.length : Int) + (es.length : Int)) = (d.length : Int) + (es.length : Int) := by rw [IntKind.wrap_i64]; omega
  have hsum3 : IntKind.i64.wrap ((d.length : Int) + (ps.length : Int)) = (d.length : Int) + (ps.length : Int) := by rw [IntKind.wrap_i64]; omega
  go_enter Tryz.func104, Tryz.ntmps104
  go_upto_region 1 with fail
  rw [← hw1]
  clear hw1
  (refine wp_region_later (by kernel_rfl) (by kernel_rfl) ?_; (repeat (go_big_quiet_step (fail))); refine wpQuiet_nil ?_; intro _ hw1; obtain ⟨lw, hw2⟩ := hw1; subst hw2)
  have hzl := (lw.below.block _ (heap_lt hz)).trans hz
  have hBl := below_chain hB1 lw.below hB1.size
  have HRl := Lib.hid (HR1.out.below lw.below)
  generalize lw.world = w2 at *
  clear l0 l1 l2 l3 hz HR1 hB1
  obtain ⟨⟨z0, z1, z2, z3⟩, -, -⟩ := box4 hzl
  by_cases k1 : kd = 1
  · subst k1
    have HF := Lib.hid (fitN_one (d := d) (ps := ps) (es := es))
    clear CHP CHE
    by_cases g1 : 0 < d.length
    · have g1' : (0 : Int) < (d.length : Int) := by omega
      have g1d : decide ((0 : Int) < (d.length : Int)) = true := decide_eq_true g1'
      obtain ⟨q2, e2⟩ : ∃ q, decide ((d.length : Int) ≤ 4096) = q := ⟨_, rfl⟩
      obtain ⟨q3, e3⟩ : ∃ q, ((ps.length : Int) + (es.length : Int) == 0) = q := ⟨_, rfl⟩
      have HG := Lib.hid (show fitN ⟨1, d, ps, es⟩ = (q2 && q3) by
        rw [HF.out, ← e2, ← e3, decide_eq_true (show 1 ≤ d.length by omega), Bool.true_and]
        congr 1
        · rw [decide_eq_decide]; omega
        · rw [Bool.eq_iff_iff, Bool.and_eq_true, beq_iff_eq, beq_iff_eq, beq_iff_eq]; omega)
      clear HF g1
      cases q2 <;> cases q3
      all_goals
        go_wp2
        go_ret
        exact ⟨by rw [HG.out]; rfl, hBl⟩
    · have g1' : ¬ (0 : Int) < (d.length : Int) := by omega
      have g1d : decide ((0 : Int) < (d.length : Int)) = false := decide_eq_false g1'
      have HG := Lib.hid (show fitN ⟨1, d, ps, es⟩ = false by rw [HF.out, decide_eq_false (show ¬ 1 ≤ d.length by omega)]; rfl)
      have hd0 : d = [] := List.eq_nil_of_length_eq_zero (by omega)
      subst hd0
      clear HF g1 g1' g1d
      go_wp2
      go_ret
      exact ⟨by rw [HG.out]; rfl, hBl⟩
  by_cases k2 : kd = 2
  · subst k2
    have HF := Lib.hid (fitN_two (d := d) (ps := ps) (es := es))
    unfold fileB at HF
    clear CHE k1
    obtain ⟨q1, e1⟩ : ∃ q, ((d.length : Int) + (es.length : Int) == 0) = q := ⟨_, rfl⟩
    obtain ⟨q2, e2⟩ : ∃ q, decide ((ps.length : Int) ≤ 1024) = q := ⟨_, rfl⟩
    have HG := Lib.hid (show fitN ⟨2, d, ps, es⟩ = (q1 && (q2 && (ps.all partOk && decide (wholeP ps ≤ 32768)))) by
      rw [HF.out, ← e1, ← e2, ← Bool.and_assoc]
      congr 1
      · rw [Bool.eq_iff_iff, Bool.and_eq_true, beq_iff_eq, beq_iff_eq, beq_iff_eq, ← List.length_eq_zero_iff]; omega
      · congr 1
        rw [decide_eq_decide]; omega)
    have CWH := fun W h h2 => whole_walk (.slice a1 ps.length c1) ps W h h2
    clear HF
    cases q1 with
    | false =>
      go_wp2
      go_ret
      exact ⟨by rw [HG.out]; rfl, hBl⟩
    | true =>
    cases q2 with
    | false =>
      go_wp2
      go_ret
      exact ⟨by rw [HG.out]; rfl, hBl⟩
    | true =>
    have hpl : ps.length ≤ 1024 := by rw [decide_eq_true_iff] at e2; omega
    have C1 := CHP w2 HRl.out.parts
    clear CHP
    cases hall : ps.all partOk with
    | false =>
      rw [hall] at C1 HG
      clear CWH hall
      go_wp2_with fail
      refine C1.mono ?_
      rintro e w3 ⟨rfl, hb3⟩
      go_wp2
      go_ret
      exact ⟨by rw [HG.out]; rfl, below_chain hBl hb3 hBl.size⟩
    | true =>
    rw [hall] at C1 HG
    have CW := fun W h => CWH W h (by omega) hall
    clear CWH hall
    generalize wholeP ps = wh at *
    go_wp2_with fail
    refine C1.mono ?_
    rintro e w3 ⟨rfl, hb3⟩
    have hz3 := (hb3.block _ (heap_lt hzl)).trans hzl
    obtain ⟨⟨y0, y1, y2, y3⟩, -, -⟩ := box4 hz3
    have C2 := CW w3 (HRl.out.parts.below hb3)
    clear C1 CW z0 z1 z2 z3
    go_wp2_with fail
    refine C2.mono ?_
    rintro e w4 ⟨rfl, hb4⟩
    go_wp2
    go_ret
    exact ⟨by rw [HG.out]; rfl, below_chain (below_chain hBl hb3 hBl.size) hb4 (below_chain hBl hb3 hBl.size).size⟩
  by_cases k3 : kd = 3
  · subst k3
    have HF := Lib.hid (fitN_three (d := d) (ps := ps) (es := es))
    rw [dirB_eq] at HF
    clear CHP k1 k2
    obtain ⟨q1, e1⟩ : ∃ q, ((d.length : Int) + (ps.length : Int) == 0) = q := ⟨_, rfl⟩
    obtain ⟨q2, e2⟩ : ∃ q, decide ((es.length : Int) ≤ 60) = q := ⟨_, rfl⟩
    have HG := Lib.hid (show fitN ⟨3, d, ps, es⟩ = (q1 && (q2 && (es.all entOk && risesB es))) by
      rw [HF.out, ← e1, ← e2, ← Bool.and_assoc]
      congr 1
      · rw [Bool.eq_iff_iff, Bool.and_eq_true, beq_iff_eq, beq_iff_eq, beq_iff_eq, ← List.length_eq_zero_iff]; omega
      · congr 1
        rw [decide_eq_decide]; omega)
    have CWH := fun W h h2 => rises_walk (.slice a2 es.length c2) es W h h2
    clear HF
    cases q1 with
    | false =>
      go_wp2
      go_ret
      exact ⟨by rw [HG.out]; rfl, hBl⟩
    | true =>
    cases q2 with
    | false =>
      go_wp2
      go_ret
      exact ⟨by rw [HG.out]; rfl, hBl⟩
    | true =>
    have hpl : es.length ≤ 60 := by rw [decide_eq_true_iff] at e2; omega
    have C1 := CHE w2 HRl.out.ents
    clear CHE
    generalize risesB es = rb at *
    cases hall : es.all entOk with
    | false =>
      rw [hall] at C1 HG
      clear CWH hall
      go_wp2_with fail
      refine C1.mono ?_
      rintro e w3 ⟨rfl, hb3⟩
      go_wp2
      go_ret
      exact ⟨by rw [HG.out]; rfl, below_chain hBl hb3 hBl.size⟩
    | true =>
    rw [hall] at C1 HG
    clear hall
    go_wp2_with fail
    refine C1.mono ?_
    rintro e w3 ⟨rfl, hb3⟩
    have hz3 := (hb3.block _ (heap_lt hzl)).trans hzl
    obtain ⟨⟨y0, y1, y2, y3⟩, -, -⟩ := box4 hz3
    have C2 := CWH w3 (HRl.out.ents.below hb3) (by omega)
    clear C1 CWH z0 z1 z2 z3
    go_wp2_with fail
    refine C2.mono ?_
    rintro e w4 ⟨rfl, hb4⟩
    go_wp2
    go_ret
    exact ⟨by rw [HG.out]; rfl, below_chain (below_chain hBl hb3 hBl.size) hb4 (below_chain hBl hb3 hBl.size).size⟩
  have HG := Lib.hid (fitN_else (d := d) (ps := ps) (es := es) k1 k2 k3)
  have k1' : (kd == 1) = false := by rw [beq_eq_false_iff_ne]; exact k1
  have k2' : (kd == 2) = false := by rw [beq_eq_false_iff_ne]; exact k2
  have k3' : (kd == 3) = false := by rw [beq_eq_false_iff_ne]; exact k3
  clear CHP CHE k1 k2 k3
  go_wp2
  go_ret
  exact ⟨by rw [HG.out]; rfl, hBl⟩
end Go.Proofs.YtaompdnnkfmjhaaGreatDoor
