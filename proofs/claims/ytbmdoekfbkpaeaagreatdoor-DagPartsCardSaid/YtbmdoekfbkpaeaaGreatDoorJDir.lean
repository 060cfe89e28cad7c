/- path.Dir. dag's builder hands out what is right in a directory. A law for a range over a function whose iterator lays and turns blocks of its own while the rounds lay and turn theirs: Ow says which block is not the rounds'. -/
import Derived.Test.YtbmdoekfbkpaeaaGreatDoorJNames
import Derived.Test.YtbmdoekfbkpaeaaGreatDoorJPathPlain
import Derived.Test.YtbmdoekfbkpaeaaGreatDoorPFile12
import Derived.Test.YtbmdoekfbkpaeaaGreatDoorJRParts
import Derived.Test.YtbmdoekfbkpaeaaGreatDoorRDir12
import Derived.Test.YtbmdoekfbkpaeaaGreatDoorJPPut12
namespace Go.Proofs.YtbmdoekfbkpaeaaGreatDoor
open Go.RowKit

theorem take_dir {l : List UInt8} {i : Nat} (_h : i < l.length) (h1 : l = l.take i ++ 47 :: l.drop (i + 1)) (h2 : ∀ c ∈ l.drop (i + 1), c ≠ 47) (hf : fitB l = true) : dirL l = l.take i ∧ i ≠ 0 := by
  have hf' := hf
  rw [h1] at hf'
  obtain ⟨e, hne⟩ := dirL_slash h2 hf'
  rw [← h1] at e
  exact ⟨e, fun hz => hne (by rw [hz]; rfl)⟩

set_option maxHeartbeats 1100000 in
theorem dir_walk (l : List UInt8) (w : World) (hm : Mx w) (hl : l.length ≤ 1100000) :
    Calls Tryz.prog 71 #[S l] w fun e w' => e = .returned (S (dirL l)) ∧ Below w.heap.size w w' := by
  have C1 := Tryz.strings_LastIndexByte ⟨l.toArray⟩ 47 (by show l.length < _; omega) w
  have C2 := fit_walk l w hm hl
  have hls := lastSlash l
  generalize Lib.lastIndexByte ⟨l.toArray⟩ 47 = li at C1 hls
  by_cases hpos : 0 < li
  · rcases hls with ⟨h1, _⟩ | ⟨i, hi, h1, h2, h3⟩
    · omega
    subst h1
    have hip : (0 : Int) < (i : Int) := hpos
    cases hf : fitB l
    · rw [hf] at C2
      have HD := Lib.hid (dirL_unfit hf)
      clear hf h2 h3
      go_enter Tryz.func71, Tryz.ntmps71
      go_wp2_with (first | (go_at_call 43; refine C1.mono ?_; rintro e w1 ⟨rfl, rfl⟩) | (go_at_call 91; refine C2.mono ?_; rintro e w1 ⟨rfl, hb⟩))
      go_ret
      exact ⟨ret_str HD.out.symm, hb⟩
    · rw [hf] at C2
      have HD := Lib.hid (take_dir hi h2 h3 hf).1
      clear hf h2 h3
      go_enter Tryz.func71, Tryz.ntmps71
      go_wp2_with (first | (go_at_call 43; refine C1.mono ?_; rintro e w1 ⟨rfl, rfl⟩) | (go_at_call 91; refine C2.mono ?_; rintro e w1 ⟨rfl, hb⟩))
      go_ret
      exact ⟨by show Ending.returned (.string _) = _; rw [S_extract]; exact ret_str (by rw [HD.out]; rfl), hb⟩
  · have HD := Lib.hid (show dirL l = [] by
      rcases hls with ⟨_, h⟩ | ⟨i, hi, h1, h2, h3⟩
      · exact dirL_noslash h
      · cases hf : fitB l
        · exact dirL_unfit hf
        · have := (take_dir hi h2 h3 hf).2; omega)
    clear C2 hls
    go_enter Tryz.func71, Tryz.ntmps71
    go_wp2_with (go_at_call 43; refine C1.mono ?_; rintro e w1 ⟨rfl, rfl⟩)
    go_ret
    exact ⟨ret_str HD.out.symm, Below.refl _ _⟩
end Go.Proofs.YtbmdoekfbkpaeaaGreatDoor

namespace Go.Proofs.YtbmdoekfbkpaeaaGreatDoor
open Go.RowKit
attribute [local go_sem] Oper.semAt_some

def encI (x : Itm) : Array Value := #[ItV x]
theorem pin_walk (p : Value) (d : List UInt8) (w : World) (hp : ∃ b, p = .pointer (some ⟨b, 0, none⟩)) :
    Calls Tryz.prog 42 #[p, S d] w fun e w' => e = .returned (.func (.func 70) #[] #[.pointer (some ⟨w.heap.size, 0, none⟩), .pointer (some ⟨w.heap.size + 1, 0, none⟩)]) ∧ w' = (w.alloc (.cells #[p] 51)).alloc (.cells #[S d] 9) := by
  obtain ⟨b, rfl⟩ := hp
  go_enter Tryz.func42, Tryz.ntmps42
  go_wp2
  go_ret
  exact ⟨rfl, rfl⟩

set_option maxHeartbeats 8000000 in
set_option maxRecDepth 100000 in
theorem pin_iter (b b1 b2 mb x y z ic : Nat) (ia : Option Addr) (items : List Itm) (d : List UInt8) (K : Nat → Prop) (w : World) (hK : K b ∧ K b1 ∧ K b2) (hKi : ∀ (W : World), KpS K w W → ItRow W (.slice ia items.length ic) items ∧ Mx W)
    (h1 : Boxed w b1 51 (.pointer (some ⟨b, 0, none⟩))) (h2 : Boxed w b2 9 (S d)) (hb : BldP w b mb x y z ia items.length ic) (hKw : ∀ j, K j → j < w.heap.size) (hlen : items.length ≤ 60) (hpl : ∀ x ∈ items, x.1.length ≤ 1100000) :
    IterOf Tryz.prog 70 #[.pointer (some ⟨b1, 0, none⟩), .pointer (some ⟨b2, 0, none⟩)] (fun _ => False) (KpS K) encI (inD items d) w := by
  intro ly J Jx W hKp hsz hJ hJx hY h0
  have HC := Lib.hid (fun (wr : World) (hk : KpS K W wr) => show wr.cell? ⟨b1, 0, none⟩ = some (.pointer (some ⟨b, 0, none⟩)) ∧ wr.cell? ⟨b2, 0, none⟩ = some (S d) ∧ wr.cell? ⟨b, 4, none⟩ = some (.slice ia items.length ic) from
    ⟨((hKp.trans hk).2 _ hK.2.1).trans h1 |> Boxed.cell, ((hKp.trans hk).2 _ hK.2.2).trans h2 |> Boxed.cell, heap_cell (((hKp.trans hk).2 _ hK.1).trans hb) (j := 4) rfl⟩)
  have HI := Lib.hid (fun (wr : World) (hk : KpS K W wr) => hKi wr (hKp.trans hk))
  have HKW := Lib.hid (fun (wr : World) (hk : KpS K W wr) (j : Nat) (hj : K j) => show j < wr.heap.size from Nat.lt_of_lt_of_le (hKw j hj) (Nat.le_trans hsz hk.1))
  have HPL := Lib.hid hpl
  obtain ⟨c1, c2, c3⟩ := HC.out W (KpS.refl _ _)
  clear h1 h2 hKp hsz hb hKi hpl
  refine (callsIn_wide (n := 3)).1 ?_
  refine callsIn_of_wp Tryz.func70 rfl trivial ?_ rfl
  simp only [Tryz.ntmps70, List.size_toArray, List.length_cons, List.length_nil, Nat.reduceAdd, Nat.reduceSub, Array.replicate_succ, Array.replicate_zero, List.push_toArray, List.append_toArray, List.nil_append, List.cons_append]
  gi_wp2
  gi_loopw [11, 5] (fun i _ wr => ∃ (k : Nat), k ≤ items.length ∧ i = .int .i64 k ∧ J (inD (items.take k) d) wr ∧ KpS K W wr) (fun i _ _ => items.length - (intOf i).toNat)
  case atStart => exact ⟨0, Nat.zero_le _, rfl, h0, KpS.refl _ _⟩
  case round =>
    clear c1 c2 c3 h0
    obtain ⟨k, hk, rfl, hJp, hkp⟩ := hrel
    obtain ⟨c1, c2, c3⟩ := HC.out wr hkp
    obtain ⟨hrow, hmx⟩ := HI.out wr hkp
    by_cases g : k < items.length
    · have g' : (k : Int) < (items.length : Int) := by omega
      obtain ⟨_, _, hv, _, _, hix⟩ := hrow
      cases hv
      rcases hix with hix | ⟨ib, io, rfl, hix⟩
      · exfalso; rw [hix] at g; simp at g
      obtain ⟨m0, m1, m2, m3⟩ := it_cells hix g
      have HST := Lib.hid (inD_step (d := d) g)
      have HPX := Lib.hid (fun h : dirL items[k].1 = d => show inD (items.take k) d ++ [items[k]] <+: inD items d from by
        have h7 := inD_step (d := d) g
        rw [if_pos h] at h7
        rw [← h7]
        unfold inD
        conv => rhs; rw [← List.take_append_drop (k + 1) items, List.filter_append]
        exact List.prefix_append _ _)
      have hp1 := HPL.out items[k] (List.getElem_mem g)
      generalize items[k] = it at *
      obtain ⟨p, isd, ex, data⟩ := it
      simp only at m0 m1 m2 m3 hp1
      obtain ⟨w1, hw1, hb1, hx1, hJ1⟩ : ∃ w1, w1 = wr.alloc (.cells #[S p, .bool isd, .bool ex, S data] 47) ∧ Below wr.heap.size wr w1 ∧ w1.heap[wr.heap.size]? = some (.cells #[S p, .bool isd, .bool ex, S data] 47 (0, 0)) ∧ J (inD (items.take k) d) w1 :=
        ⟨_, rfl, (Below.refl _ _).alloc (Nat.le_refl _) _, heap_alloc_new _ _, hJ _ _ _ none hJp (World.grownBy_alloc wr _ none) (fun r e => by cases e)⟩
      have hmx1 := hmx.below hb1
      have CD := fun (q : LaterOf w1) => dir_walk p q.world (hmx1.below q.below) hp1
      obtain ⟨⟨s0, s1, s2, s3⟩, -, -⟩ := box4 hx1
      have l0 := LaterOf.cell s0
      have l1 := LaterOf.cell (cell_below hb1 c2)
      have HX1 := Lib.hid hx1
      have HB1 := Lib.hid hb1
      clear hix s0 s1 s2 s3 hmx hmx1
      have HJ1 := Lib.hid hJ1
      gi_wp2_with fail
      rw [← hw1]
      clear hw1 hJ1 hx1 hJp
      by_cases hdd : dirL p = d
      · have he : (dirL p == d) = true := by rw [beq_iff_eq]; exact hdd
        have HPY := Lib.hid (HPX.out hdd)
        have HIN := Lib.hid (HST.out.trans (if_pos hdd))
        clear hdd HPX HST
        generalize dirL p = dp at *
        (refine wpIn_tail_later 6 5 rfl (by kernel_rfl) (by kernel_rfl) (by kernel_rfl) (by kernel_rfl) (by kernel_rfl) ?_; simp only [List.take_succ_cons, List.take_zero]; (repeat (first | gi_big_quiet_step (fail) | (refine BigFrame.wpQuietIn_want (fun _ _ _ _ => trivial) (by rfl) ?_; intro K hK; gi_big_quiet_op; gi_big_quiet_call ((gi_at_call 71; exact LaterOf.callIn _ (callsIn_wide.2 (CD _))))))); refine wpQuietIn_nil ?_; intro _ hw1; obtain ⟨lw, hw2⟩ := hw1; subst hw2)
        have hx := (lw.below.block _ (heap_lt HX1.out)).trans HX1.out
        obtain ⟨⟨s0, s1, s2, s3⟩, -, -⟩ := box4 hx
        have HJL := Lib.hid (hJ _ w1 lw.world none HJ1.out (grown_of_below lw.below) (fun r e => by cases e))
        obtain ⟨fn, tmps, assign, body, hy, hR⟩ := hY (inD (items.take k) d) (p, isd, ex, data) lw.world HJL.out HPY.out
        simp only [encI] at hy
        have HKL := Lib.hid (hkp.trans (KpS.below (W := wr) (W' := lw.world) (hb1.trans (lw.below.mono hb1.size)) (fun j hj => HKW.out wr hkp j hj)))
        clear hx l0 l1 CD HX1 c1 c2 c3
        (refine wpAnyIn_take (i := 6) (v := ?_) rfl rfl (by kernel_rfl) (by kernel_rfl) (by kernel_rfl) (fun _ _ _ h => h) ⟨Or.inl ⟨by rfl, ?_⟩, fun _ => rfl⟩ ?_; rotate_left; (intro w9; go_simp; try with_reducible rfl))
        (refine wpAnyIn_ready (rs := [7]) (by kernel_rfl) (by simp) ?_; refine AllReadyIn.cons rfl (fun K hK => ?_) AllReadyIn.nil; go_simp; refine hK _ _ ?_; clear hK K)
        refine wpAnyIn_ready (rs := [8]) (by kernel_rfl) (by simp) ?_
        refine AllReadyIn.cons rfl (fun K2 hK2 => ?_) AllReadyIn.nil
        go_simp
        refine hR.mono ?_
        rintro e w4 (⟨rfl, hJ4, hk4⟩ | ⟨rfl, hJx4⟩)
        · have HJ4 := Lib.hid hJ4
          have HK4 := Lib.hid (HKL.out.trans hk4)
          refine hK2 _ _ ?_
          clear hK2 K2 hJ4 hk4 hy hR s0 s1 s2 s3
          (refine wpAnyIn_ready (rs := [9]) (by kernel_rfl) (by simp) ?_; refine AllReadyIn.cons rfl (fun K hK => ?_) AllReadyIn.nil; go_simp; refine hK _ _ ?_; clear hK K)
          (refine wpAnyIn_ready (rs := [10]) (by kernel_rfl) (by simp) ?_; refine AllReadyIn.cons rfl (fun K hK => ?_) AllReadyIn.nil; go_simp; refine hK _ _ ?_; clear hK K)
          refine wpAnyIn_done (by kernel_rfl) ?_ _
          gi_wp2
          go_roundw
          case rel => exact ⟨k + 1, by omega, by go_num, by rw [HIN.out]; exact HJ4.out, HK4.out⟩
          case measure => simp [intOf]; omega
        · have HJX := Lib.hid hJx4
          refine hK2 _ _ ?_
          clear hK2 K2 hJx4 hy hR s0 s1 s2 s3
          (refine wpAnyIn_ready (rs := [9]) (by kernel_rfl) (by simp) ?_; refine AllReadyIn.cons rfl (fun K hK => ?_) AllReadyIn.nil; go_simp; refine hK _ _ ?_; clear hK K)
          (refine wpAnyIn_ready (rs := [10]) (by kernel_rfl) (by simp) ?_; refine AllReadyIn.cons rfl (fun K hK => ?_) AllReadyIn.nil; go_simp; refine hK _ _ ?_; clear hK K)
          refine wpAnyIn_done (by kernel_rfl) ?_ _
          gi_wp2
          refine bodyPost_ret (results_none rfl _ _ _) rfl ?_
          exact ⟨⟨_, rfl⟩, .inr ⟨inD (items.take k) d ++ [(p, isd, ex, data)], HPY.out, HJX.out⟩⟩
      · have he : (dirL p == d) = false := by rw [beq_eq_false_iff_ne]; exact hdd
        have HIN := Lib.hid (HST.out.trans (if_neg hdd))
        clear hdd HPX HST
        generalize dirL p = dp at *
        (refine wpIn_tail_later 6 5 rfl (by kernel_rfl) (by kernel_rfl) (by kernel_rfl) (by kernel_rfl) (by kernel_rfl) ?_; simp only [List.take_succ_cons, List.take_zero]; (repeat (first | gi_big_quiet_step (fail) | (refine BigFrame.wpQuietIn_want (fun _ _ _ _ => trivial) (by rfl) ?_; intro K hK; gi_big_quiet_op; gi_big_quiet_call ((gi_at_call 71; exact LaterOf.callIn _ (callsIn_wide.2 (CD _))))))); refine wpQuietIn_nil ?_; intro _ hw1; obtain ⟨lw, hw2⟩ := hw1; subst hw2)
        have HJL := Lib.hid (hJ _ w1 lw.world none HJ1.out (grown_of_below lw.below) (fun r e => by cases e))
        have HKL := Lib.hid (hkp.trans (KpS.below (W := wr) (W' := lw.world) (hb1.trans (lw.below.mono hb1.size)) (fun j hj => HKW.out wr hkp j hj)))
        clear l0 l1 CD HX1 c1 c2 c3
        (refine wpAnyIn_take (i := 6) (v := undef) rfl rfl (by kernel_rfl) (by kernel_rfl) (by kernel_rfl) (fun _ _ _ h => h) ⟨Or.inr ⟨by rfl, rfl⟩, fun _ => rfl⟩ ?_)
        (refine wpAnyIn_take (i := 7) (v := undef) rfl rfl (by kernel_rfl) (by kernel_rfl) (by kernel_rfl) (fun _ _ _ h => h) ⟨Or.inr ⟨by rfl, rfl⟩, fun _ => rfl⟩ ?_)
        (refine wpAnyIn_take (i := 8) (v := undef) rfl rfl (by kernel_rfl) (by kernel_rfl) (by kernel_rfl) (fun _ _ _ h => h) ⟨Or.inr ⟨by rfl, rfl⟩, fun _ => rfl⟩ ?_)
        (refine wpAnyIn_take (i := 9) (v := undef) rfl rfl (by kernel_rfl) (by kernel_rfl) (by kernel_rfl) (fun _ _ _ h => h) ⟨Or.inr ⟨by rfl, rfl⟩, fun _ => rfl⟩ ?_)
        (refine wpAnyIn_ready (rs := [10]) (by kernel_rfl) (by simp) ?_; refine AllReadyIn.cons rfl (fun K hK => ?_) AllReadyIn.nil; go_simp; refine hK _ _ ?_; clear hK K)
        refine wpAnyIn_done (by kernel_rfl) ?_ _
        gi_wp2
        go_roundw
        case rel => exact ⟨k + 1, by omega, by go_num, by rw [HIN.out]; exact HJL.out, HKL.out⟩
        case measure => simp [intOf]; omega
    · have g' : ¬ (k : Int) < (items.length : Int) := by omega
      obtain rfl : k = items.length := by omega
      rw [List.take_of_length_le (Nat.le_refl _)] at hJp
      have HJ := Lib.hid hJp
      clear hJp hrow hmx
      gi_wp2
      go_end0
      exact ⟨⟨_, rfl⟩, .inl HJ.out⟩
end Go.Proofs.YtbmdoekfbkpaeaaGreatDoor

namespace Go.Proofs.YtbmdoekfbkpaeaaGreatDoor
open Go.RowKit

/-- What an iterator may turn between two rounds: blocks from N on that are not the rounds'. -/
def Stays2 {β : Type} (Ow : World → Nat → Prop) (N : Nat) (J : β → World → Prop) : Prop :=
  ∀ s A B row, J s A → A.grownBy B row → (∀ r, row = some r → N ≤ r ∧ Ow A r) → J s B
/-- What a caller's invariant must bear. -/
def Bides2 {β : Type} (Ow : World → Nat → Prop) (N : Nat) (J : β → World → Prop) : Prop :=
  ∀ s A B row, J s A → A.grownBy B row → (∀ r, row = some r → N ≤ r ∧ (Ow A r ∨ ∃ o : Obj, A.heap[r]? = some o ∧ o.isCells = false)) → J s B
/-- The contract of an iterator that hands out xs, one by one, till a round says no. -/
def IterOf2 {α : Type} (P : Program) (g : Nat) (lb : Array Value) (Ow : World → Nat → Prop) (Kp : World → World → Prop) (encs : α → Array Value) (xs : List α) (w : World) : Prop :=
  ∀ (l : Nat) (J Jx : List α → World → Prop) (W : World), Kp w W → w.heap.size + 2 ≤ W.heap.size → Stays2 Ow W.heap.size J → Stays2 Ow W.heap.size Jx →
    (∀ pre x W1, J pre W1 → pre ++ [x] <+: xs → YieldAt Fence.wide 2 P l (encs x) W1 fun e W' =>
      (e = .returned (.bool true) ∧ J (pre ++ [x]) W' ∧ Kp W1 W') ∨ (e = .returned (.bool false) ∧ Jx (pre ++ [x]) W')) →
    J [] W →
    Calls P g (#[.func (.yield l) #[] #[]] ++ lb) W fun e W' => (∃ v, e = .returned v) ∧ (J xs W' ∨ ∃ pre, pre <+: xs ∧ Jx pre W')

theorem Bides2.put {β : Type} {Ow : World → Nat → Prop} {N : Nat} {J : β → World → Prop} (h : Bides2 Ow N J) {s : β} {W : World} {l : Nat} {o : Obj} (o' : Obj) (hs : J s W) (hN : N ≤ l) (hl : W.heap[l]? = some o) (ho : o.isCells = false) : J s (W.putObj l o') :=
  h s W _ (some l) hs (grownBy_putObj' W l o') (fun r e => by cases e; exact ⟨hN, .inr ⟨o, hl, ho⟩⟩)
theorem Bides2.new {β : Type} {Ow : World → Nat → Prop} {N : Nat} {J : β → World → Prop} (h : Bides2 Ow N J) {s : β} {W : World} (o : Obj) (hs : J s W) : J s (W.alloc o) :=
  h s W _ none hs (World.grownBy_alloc W o none) (fun r e => by cases e)

section
variable {P : Program}

/-- The law, at a loop that stands in no other loop's round. -/
theorem range_law2 {α : Type} {g : Operand} {ps : Array Tmp} {assign body : Code} {Q : Exit → Act → World → Prop} {a : Act} {w : World}
    {gf : Nat} {lb : Array Value} (hg : a.eval g = .func (.func gf) #[] lb) (eg : ∀ args w, (callFunc gf args).run P w = .ok (.enter gf args) w)
    {Ow : World → Nat → Prop} {Kp : World → World → Prop} {encs : α → Array Value} {xs : List α} (hseq : IterOf2 P gf lb Ow Kp encs xs w)
    (hKt : ∀ {A B C : World}, Kp A B → Kp B C → Kp A C) (hKb : ∀ (W : World) (o : Obj), Kp W (W.putObj (w.heap.size + 1) o)) (hKa : ∀ o o', Kp w ((w.alloc o).alloc o')) (hps : ∀ x, (encs x).size = ps.size)
    (I : List α → World → Prop) (Ix : Code → List α → World → Prop) (hI : Bides2 Ow w.heap.size I) (hIx : ∀ c, Bides2 Ow w.heap.size (Ix c)) (h0 : I [] w)
    (Ax : α → Act → World → Prop) (hAx : ∀ x a', Bides2 Ow w.heap.size (fun (_ : Unit) W => Ax x a' W))
    (hassign : ∀ (l : Nat) (pre : List α) (x : α) (W : World) (K : Act → World → Prop), I pre W → (∀ a' W', KeepsFrom w.heap.size W W' → Kp W W' → I pre W' → Ax x a' W' → K a' W') →
      assign.wpIn (Fence.wide.inRound l) 2 P (Exit.then K (fun _ _ _ => False)) { tmps := (ps.zip (encs x)).foldl (fun t (p, v) => t.setIfInBounds p v) a.tmps, defers := [] } W)
    (hbody : ∀ (l : Nat) (pre : List α) (x : α) (a' : Act) (W : World), w.heap.size ≤ l → (∃ r, W.heap[l]? = some (.loop r)) → I pre W → Ax x a' W → pre ++ [x] <+: xs →
      body.wpIn (Fence.wide.inRound l) 2 P (ownPostG w.heap.size Kp I Ix (pre ++ [x]) W) a' W)
    (hdone : ∀ (D : Nat) (W : World), w.heap.size ≤ D → I xs W → W.heap[D]? = some (.deferred (some [])) → Q .normal { a with defers := { target := .collected D, args := #[] } :: a.defers } W)
    (hstop : ∀ (D : Nat) (c : Code) (pre : List α) (W : World), w.heap.size ≤ D → pre <+: xs → Ix c pre W → W.heap[D]? = some (.deferred (some [])) → c.wpIn Fence.wide 3 P Q { a with defers := { target := .collected D, args := #[] } :: a.defers } W) :
    (Code.rangeFunc g ps assign body).wpIn Fence.wide 3 P Q a w := by
  refine wpIn_rangeFunc ?_
  intro fn hfn
  have hro : Fence.wide.round = none := rfl
  rw [hro]
  obtain ⟨rec, hrec⟩ : ∃ rec : LoopState → Option Code → Loop, rec = fun st pe => { state := st, pending := pe, fn, tmps := a.tmps, params := ps, assign, body, defers := w.heap.size } := ⟨_, rfl⟩
  obtain ⟨W1, hW1⟩ : ∃ W1, (w.alloc (.deferred (some []))).alloc (.loop (rec .ready none)) = W1 := ⟨_, rfl⟩
  have hL1 : W1.heap[w.heap.size + 1]? = some (.loop (rec .ready none)) := by
    rw [← hW1]; have := World.alloc_heap_new (w.alloc (.deferred (some []))) (.loop (rec .ready none)); rwa [World.size_alloc] at this
  have hK1 : W1.heap[w.heap.size]? = some (.deferred (some [])) := by
    rw [← hW1]; exact (Below.heap_alloc _ _ _ (by simp)).trans (World.alloc_heap_new w _)
  have hI1 : I [] W1 := by rw [← hW1]; exact hI.new _ (hI.new _ h0)
  have hKp1 : Kp w W1 := by rw [← hW1]; exact hKa _ _
  have hsz1 : W1.heap.size = w.heap.size + 2 := by rw [← hW1]; simp
  refine ⟨w.heap.size + 1, [{ target := .collected w.heap.size, args := #[] }], W1, { target := .fn (.func gf) lb, args := #[.func (.yield (w.heap.size + 1)) #[] #[]] }, W1, gf,
    #[.func (.yield (w.heap.size + 1)) #[] #[]] ++ lb, W1, ?_, ?_, ?_, ?_, (fun _ => by omega), ?_⟩
  · rw [← hW1, hrec]; exact run_enterLoop_outer _ _ _ _ _
  · simp only [resolve, hg]
    simp [go_sem]
  · intro f' _; trivial
  · simp [invoke, go_sem, eg]
  · -- THE BOOK-KEEPING: no step of the iterator's turns the record or the block for deferred calls
    have hne : ∀ {A : World} {row : Option Nat} {k : Nat} {o : Obj}, (∀ r, row = some r → W1.heap.size ≤ r ∧ Ow A r) → w.heap.size ≤ k → k < W1.heap.size → A.heap[k]? = some o → some k ≠ row := by
      intro A row k o hr hk1 hk2 _ e
      have := (hr k e.symm).1
      omega
    have hcells : ∀ {A : World} {row : Option Nat}, (∀ r, row = some r → W1.heap.size ≤ r ∧ Ow A r) → (∀ r, row = some r → w.heap.size ≤ r ∧ (Ow A r ∨ ∃ o : Obj, A.heap[r]? = some o ∧ o.isCells = false)) := by
      intro A row hr r e
      exact ⟨by have := (hr r e).1; omega, .inl (hr r e).2⟩
    have hkeep : ∀ {A B : World} {row : Option Nat} {k : Nat} {o : Obj}, A.grownBy B row → some k ≠ row → A.heap[k]? = some o → B.heap[k]? = some o := by
      intro A B row k o hgr hn hk
      exact (hgr.block k (Array.getElem?_eq_some_iff.1 hk).1 hn).trans hk
    refine callsIn_wide.2 ((hseq (w.heap.size + 1)
      (fun pre W => I pre W ∧ W.heap[w.heap.size + 1]? = some (.loop (rec .ready none)) ∧ W.heap[w.heap.size]? = some (.deferred (some [])))
      (fun pre W => ∃ c, Ix c pre W ∧ W.heap[w.heap.size + 1]? = some (.loop (rec .done (some c))) ∧ W.heap[w.heap.size]? = some (.deferred (some [])))
      W1 hKp1 (by omega)
      (fun s A B row hs hg' hr => ⟨hI s A B row hs.1 hg' (hcells hr), hkeep hg' (hne hr (by omega) (by omega) hs.2.1) hs.2.1, hkeep hg' (hne hr (by omega) (by omega) hs.2.2) hs.2.2⟩)
      (fun s A B row hs hg' hr => by
        obtain ⟨c, hc, hl, hk⟩ := hs
        exact ⟨c, hIx c s A B row hc hg' (hcells hr), hkeep hg' (hne hr (by omega) (by omega) hl) hl, hkeep hg' (hne hr (by omega) (by omega) hk) hk⟩)
      ?_ ⟨hI1, hL1, hK1⟩).mono ?_)
    · -- ONE ROUND
      rintro pre x W ⟨hi, hl, hk⟩ hpx
      have hy := run_yield (P := P) (args := encs x) hl (by rw [hrec]; exact hps x)
      rw [hrec] at hy
      refine ⟨fn, _, assign, body, hy, roundIn_of_wpIn hfn (hassign _ pre x W _ hi ?_)⟩
      clear hy
      intro a' Wa hkfa hkpa hia hax
      have hla := hkfa.same _ _ (by omega) hl rfl
      have hka := hkfa.same _ _ (Nat.le_refl _) hk rfl
      have hlta : w.heap.size + 1 < Wa.heap.size := (Array.getElem?_eq_some_iff.1 hla).1
      refine ⟨_, run_beginRound hla (by rw [hrec]), ?_⟩
      have hl2 : (Wa.putObj (w.heap.size + 1) (.loop { rec .ready none with state := .busy })).heap[w.heap.size + 1]? = some (.loop { rec .ready none with state := .busy }) := World.putObj_heap_same hlta
      have hk2 : (Wa.putObj (w.heap.size + 1) (.loop { rec .ready none with state := .busy })).heap[w.heap.size]? = some (.deferred (some [])) := (World.putObj_heap_other (by omega)).trans hka
      have hw2 : Kp Wa (Wa.putObj (w.heap.size + 1) (.loop { rec .ready none with state := .busy })) := hKb _ _
      refine wpIn_mono (hbody _ pre x a' _ (by omega) ⟨_, hl2⟩ (hI.put _ hia (by omega) hla rfl) ((hAx x a').put (s := ()) _ hax (by omega) hla rfl) hpx) ?_
      have fin : ∀ (jump : Option Code) (W3 : World), KeepsFrom w.heap.size (Wa.putObj (w.heap.size + 1) (.loop { rec .ready none with state := .busy })) W3 →
          (Instr.endRound (w.heap.size + 1) jump).run P W3 = .ok (.bool jump.isNone) (W3.putObj (w.heap.size + 1) (.loop (rec (if jump.isNone then .ready else .done) jump))) ∧
          W3.heap[w.heap.size + 1]? = some (.loop { rec .ready none with state := .busy }) ∧
          (W3.putObj (w.heap.size + 1) (.loop (rec (if jump.isNone then .ready else .done) jump))).heap[w.heap.size + 1]? = some (.loop (rec (if jump.isNone then .ready else .done) jump)) ∧
          (W3.putObj (w.heap.size + 1) (.loop (rec (if jump.isNone then .ready else .done) jump))).heap[w.heap.size]? = some (.deferred (some [])) := fun jump W3 hk3 => by
        have hl3 := hk3.same _ _ (by omega) hl2 rfl
        have := run_endRound (P := P) jump hl3
        rw [hrec] at this ⊢
        exact ⟨this, by rw [hrec] at hl3; exact hl3, World.putObj_heap_same (Array.getElem?_eq_some_iff.1 hl3).1, (World.putObj_heap_other (by omega)).trans (hk3.same _ _ (Nat.le_refl _) hk2 rfl)⟩
      rintro e a3 W3 hp
      cases e with
      | normal =>
        obtain ⟨hk3, hkp3, hi3⟩ := hp
        obtain ⟨hr, hl3, hl4, hk4⟩ := fin none W3 hk3
        exact ⟨_, _, hr, .inl ⟨rfl, ⟨hI.put _ hi3 (by omega) hl3 rfl, hl4, hk4⟩, hKt hkpa (hKt (hKt hw2 hkp3) (hKb _ _))⟩⟩
      | ret =>
        obtain ⟨hk3, hi3⟩ := hp
        obtain ⟨hr, hl3, hl4, hk4⟩ := fin (some .ret) W3 hk3
        exact ⟨_, _, hr, .inr ⟨rfl, .ret, (hIx _).put _ hi3 (by omega) hl3 rfl, hl4, hk4⟩⟩
      | exit id =>
        obtain ⟨hk3, hi3⟩ := hp
        obtain ⟨hr, hl3, hl4, hk4⟩ := fin (some (.exit id)) W3 hk3
        exact ⟨_, _, hr, .inr ⟨rfl, .exit id, (hIx _).put _ hi3 (by omega) hl3 rfl, hl4, hk4⟩⟩
      | goto t =>
        obtain ⟨hk3, hi3⟩ := hp
        obtain ⟨hr, hl3, hl4, hk4⟩ := fin (some (.goto t)) W3 hk3
        exact ⟨_, _, hr, .inr ⟨rfl, .goto t, (hIx _).put _ hi3 (by omega) hl3 rfl, hl4, hk4⟩⟩
      | panic ch => exact hp.elim
      | outgrown => exact hp.elim
    · -- BEHIND THE ITERATOR
      rintro e W2 ⟨⟨v, rfl⟩, (⟨hi, hl, hk⟩ | ⟨pre, hpre, c, hi, hl, hk⟩)⟩
      · exact ⟨none, _, by have := run_endLoop (P := P) hl (by rw [hrec]; simp); rw [hrec] at this; exact this, hdone _ _ (Nat.le_refl _) (hI.put _ hi (by omega) hl rfl) ((World.putObj_heap_other (by omega)).trans hk)⟩
      · exact ⟨some c, _, by have := run_endLoop (P := P) hl (by rw [hrec]; simp); rw [hrec] at this; exact this, hstop _ c pre _ (Nat.le_refl _) hpre ((hIx c).put _ hi (by omega) hl rfl) ((World.putObj_heap_other (by omega)).trans hk)⟩
end
end Go.Proofs.YtbmdoekfbkpaeaaGreatDoor
