/- path.names: an iterator over a path's names, up to the first that is none. path.Split and path.Fit. -/
import Derived.Test.YtbmdoekfbkpaeaaGreatDoorJPPut12
import Derived.Test.YtbmdoekfbkpaeaaGreatDoorAny
import Derived.Maps.AppendAt
import Derived.RangeFuncBox
namespace Go.Proofs.YtbmdoekfbkpaeaaGreatDoor
open Go.RowKit
attribute [local go_sem] Oper.semAt_some

theorem index_slash : ∀ l : List UInt8, (Lib.index l [47] = -1 ∧ ∀ c ∈ l, c ≠ 47) ∨ (0 ≤ Lib.index l [47] ∧ l = l.take (Lib.index l [47]).toNat ++ 47 :: l.drop ((Lib.index l [47]).toNat + 1) ∧ ∀ c ∈ l.take (Lib.index l [47]).toNat, c ≠ 47)
  | [] => .inl ⟨rfl, fun c hc => by cases hc⟩
  | b :: l => by
    have ih := index_slash l
    have hp : [47].isPrefixOf (b :: l) = (47 == b) := by simp [List.isPrefixOf]
    rw [Lib.index, hp]
    by_cases hb : b = 47
    · subst hb
      right
      simp
    · have hb' : ((47 : UInt8) == b) = false := by rw [beq_eq_false_iff_ne]; exact fun e => hb e.symm
      rw [hb']
      simp only [Bool.false_eq_true, if_false]
      rcases ih with ⟨h1, h2⟩ | ⟨h1, h2, h3⟩
      · left
        rw [h1]
        refine ⟨rfl, fun c hc => ?_⟩
        rcases List.mem_cons.1 hc with h | h
        · rw [h]; exact hb
        · exact h2 c h
      · right
        have hn : (Lib.index l [47] == -1) = false := by rw [beq_eq_false_iff_ne]; omega
        rw [hn]
        simp only [Bool.false_eq_true, if_false]
        have ht : (Lib.index l [47] + 1).toNat = (Lib.index l [47]).toNat + 1 := by omega
        rw [ht]
        refine ⟨by omega, ?_, ?_⟩
        · rw [List.take_succ_cons, List.drop_succ_cons, List.cons_append, ← h2]
        · intro c hc
          rw [List.take_succ_cons] at hc
          rcases List.mem_cons.1 hc with h | h
          · rw [h]; exact hb
          · exact h3 c h

theorem cut_slash (l : List UInt8) : ∃ a t b, Lib.cut l [47] = (a, t, b) ∧ ((b = true ∧ l = a ++ 47 :: t ∧ partsL l = a :: partsL t ∧ t.length < l.length) ∨ (b = false ∧ a = l ∧ t = [] ∧ partsL l = [l])) := by
  rcases index_slash l with ⟨h1, h2⟩ | ⟨h1, h2, h3⟩
  · exact ⟨l, [], false, by rw [Lib.cut, h1]; rfl, .inr ⟨rfl, rfl, rfl, partsL_noslash l h2⟩⟩
  · refine ⟨_, _, true, by rw [Lib.cut, if_pos h1]; rfl, .inl ⟨rfl, h2, ?_, ?_⟩⟩
    · conv => lhs; rw [h2]
      rw [partsL_slash _ _ h3]
    · have := congrArg List.length h2; simp at this ⊢; omega

/-- The names that are handed out: up to the first that is none. -/
def uptoL : List (List UInt8) → List (List UInt8 × Bool)
  | [] => []
  | p :: ps => if nameB p = true then (p, true) :: uptoL ps else [(p, false)]

def encN (x : List UInt8 × Bool) : Array Value := #[S x.1, .bool x.2]
/-- What a round must keep of the iterator's. -/
def KpN (n₀ B : Nat) (W W' : World) : Prop := W.heap.size ≤ W'.heap.size ∧ ∀ k, k < n₀ ∨ k = B → W'.heap[k]? = W.heap[k]?

/-- How many bytes are still to be gone through. -/
def leftN (B : Nat) (more : Value) (W : World) : Nat :=
  match more with
  | .bool true => (match W.cell? ⟨B, 0, none⟩ with | some (.string s) => s.size + 1 | _ => 0)
  | _ => 0

theorem grown_of_below {W W' : World} (h : Below W.heap.size W W') : W.grownBy W' none := ⟨h.os, h.tape, h.output, h.size, fun k hk _ => h.block k hk⟩

set_option maxHeartbeats 1100000 in
theorem names_walk (l : List UInt8) (w : World) :
    Calls Tryz.prog 123 #[S l] w fun e w' => e = .returned (.func (.func 136) #[] #[.pointer (some ⟨w.heap.size, 0, none⟩)]) ∧ w' = w.alloc (.cells #[S l] 9) := by
  go_enter Tryz.func123, Tryz.ntmps123
  go_wp2
  go_ret
  exact ⟨rfl, rfl⟩

set_option maxHeartbeats 2000000 in
set_option maxRecDepth 100000 in
theorem names_iter (n₀ B : Nat) (l : List UInt8) (w : World) (hB : Boxed w B 9 (S l)) (hm : Mx w) (hG : 0 < n₀) (hBn : n₀ ≤ B) (hl : l.length ≤ 1100000) :
    IterOf Tryz.prog 136 #[.pointer (some ⟨B, 0, none⟩)] (fun r => r = B) (KpN n₀ B) encN (uptoL (partsL l)) w := by
  intro ly J Jx W hKp hsz hJ hJx hY h0
  have hBW : Boxed W B 9 (S l) := (hKp.2 B (.inr rfl)).trans hB
  have hmW : ∃ m, W.cell? ⟨0, 0, none⟩ = some (.int .i64 m) := by
    obtain ⟨m, hm⟩ := hm
    exact ⟨m, (World.cell?_of_block (a := ⟨0, 0, none⟩) (hKp.2 _ (.inl hG))).trans hm⟩
  refine (callsIn_wide (n := 3)).1 ?_
  refine callsIn_of_wp Tryz.func136 rfl trivial ?_ rfl
  simp only [Tryz.ntmps136, List.size_toArray, List.length_cons, List.length_nil, Nat.reduceAdd, Nat.reduceSub, Array.replicate_succ, Array.replicate_zero, List.push_toArray, List.append_toArray, List.nil_append, List.cons_append]
  gi_wp2
  gi_loopw [3, 4, 5] (fun more _ _ wr => ∃ (m : Bool) (pre : List (List UInt8 × Bool)) (cur : List UInt8), more = .bool m ∧ Boxed wr B 9 (S cur) ∧ J pre wr ∧ (∃ q, wr.cell? ⟨0, 0, none⟩ = some (.int .i64 q)) ∧ cur.length ≤ 1100000 ∧
      (m = true → uptoL (partsL l) = pre ++ uptoL (partsL cur)) ∧ (m = false → pre = uptoL (partsL l)))
    (fun more _ _ wr => leftN B more wr)
  case atStart => exact ⟨true, [], l, rfl, hBW, h0, hmW, hl, fun _ => rfl, fun h => by cases h⟩
  case round =>
    obtain ⟨m, pre, cur, rfl, hbox, hJp, hmq, hcl, hT, hF⟩ := hrel
    cases m
    · have HF := Lib.hid (hF rfl)
      clear hT hF
      gi_wp2
      go_end0
      exact ⟨⟨_, rfl⟩, .inl (by rw [← HF.out]; exact hJp)⟩
    · have HT := Lib.hid (hT rfl)
      clear hT hF
      obtain ⟨q, hq⟩ := hmq
      obtain ⟨a, t, b, hcut, hab⟩ := cut_slash cur
      have hc := hbox.cell
      have hf := hbox.frozen
      have C1 := Tryz.strings_Cut ⟨cur.toArray⟩ ⟨[47].toArray⟩ q wr (by show cur.length < _; omega) hq
      have e1 : Lib.cut (({ data := cur.toArray } : ByteArray).data.toList) (({ data := [47].toArray } : ByteArray).data.toList) = (a, t, b) := hcut
      rw [e1] at C1
      clear e1 hcut
      have HAB := Lib.hid hab
      gi_wp2_with (refine ⟨trivial, ?_⟩; gi_at_call 137; refine (callsIn_wide.2 C1).mono ?_; rintro e w1 ⟨rfl, nd, rfl⟩)
      have hba : Boxed ((wr.drewN nd).setCell ⟨B, 0, none⟩ (S t)) B 9 (S t) := Boxed.set (W := wr.drewN nd) (S t) hbox
      have hJ2 : J pre ((wr.drewN nd).setCell ⟨B, 0, none⟩ (S t)) :=
        hJ pre (wr.drewN nd) _ (some B) (hJ pre wr _ none hJp ⟨rfl, rfl, rfl, Nat.le_refl _, fun _ _ _ => rfl⟩ (fun r e => by cases e)) (grownBy_setCell' _ _ _) (fun r e => by cases e; exact .inl rfl)
      have hq2 : ((wr.drewN nd).setCell ⟨B, 0, none⟩ (S t)).cell? ⟨0, 0, none⟩ = some (.int .i64 q) := (World.cell?_setCell_other _ _ _ _ (by intro e; have := congrArg Addr.block e; simp at this; omega)).trans hq
      have HAT := Lib.hid (show a.length ≤ 1100000 ∧ t.length ≤ 1100000 by
        rcases hab with ⟨_, h, _, h2⟩ | ⟨_, h1, h2, _⟩
        · have := congrArg List.length h; simp at this; omega
        · subst h1; subst h2; simp; exact hcl)
      have HBOX := Lib.hid hbox.cell
      clear hab hc hf C1 hbox hJp hq
      generalize (wr.drewN nd).setCell ⟨B, 0, none⟩ (S t) = w2 at *
      refine ⟨trivial, callsIn_wide.2 ((name_walk a w2 HAT.out.1).mono ?_)⟩
      rintro e w3 ⟨rfl, hb3⟩
      have hJ3 : J pre w3 := hJ pre w2 w3 none hJ2 (grown_of_below hb3) (fun r e => by cases e)
      have hbx3 : Boxed w3 B 9 (S t) := (hb3.block B hba.lt).trans hba
      have hq3 := cell_below hb3 hq2
      clear hJ2 hba hq2 hb3
      have hU : ∃ tl, uptoL (partsL cur) = (a, nameB a) :: tl ∧ (nameB a = false → tl = []) ∧ (nameB a = true → b = true → tl = uptoL (partsL t)) ∧ (b = false → tl = []) := by
        rcases HAB.out with ⟨h1, _, h2, _⟩ | ⟨h1, h2, _, h3⟩
        · rw [h2, uptoL]
          by_cases hn : nameB a = true
          · rw [if_pos hn, hn]; exact ⟨_, rfl, by simp, fun _ _ => rfl, by simp [h1]⟩
          · rw [if_neg hn]; have : nameB a = false := by simpa using hn
            rw [this]; exact ⟨_, rfl, fun _ => rfl, by simp, fun _ => rfl⟩
        · rw [h3, ← h2, uptoL]
          by_cases hn : nameB a = true
          · rw [if_pos hn, hn]; exact ⟨_, rfl, by simp, by simp [h1], fun _ => rfl⟩
          · rw [if_neg hn]; have : nameB a = false := by simpa using hn
            rw [this]; exact ⟨_, rfl, fun _ => rfl, by simp, fun _ => rfl⟩
      obtain ⟨tl, hU1, hU2, hU3, hU4⟩ := hU
      have hX : uptoL (partsL l) = (pre ++ [(a, nameB a)]) ++ tl := by rw [HT.out, hU1]; simp
      obtain ⟨fn, tmps, assign, body, hy, hR⟩ := hY pre (a, nameB a) w3 hJ3 ⟨tl, hX.symm⟩
      have HU2 := Lib.hid hU2
      have HU3 := Lib.hid hU3
      have HU4 := Lib.hid hU4
      have HX := Lib.hid hX
      clear hU1 hU2 hU3 hU4 hX
      generalize nameB a = na at *
      simp only [encN] at hy
      gi_wp2
      refine hR.mono ?_
      rintro e w4 (⟨rfl, hJ4, hk4⟩ | ⟨rfl, hJx4⟩)
      · cases na
        · have HU := Lib.hid (HU2.out rfl)
          gi_wp2
          refine bodyPost_ret (results_none rfl _ _ _) rfl ?_
          exact ⟨⟨_, rfl⟩, .inl (by rw [HX.out, HU.out, List.append_nil]; exact hJ4)⟩
        · have hb4 : Boxed w4 B 9 (S t) := (hk4.2 B (.inr rfl)).trans hbx3
          have hq4 : w4.cell? ⟨0, 0, none⟩ = some (.int .i64 q) := (World.cell?_of_block (a := ⟨0, 0, none⟩) (hk4.2 _ (.inl hG))).trans hq3
          clear hbx3 hq3
          cases b
          · have HU := Lib.hid (HU4.out rfl)
            gi_wp2
            go_roundw
            case rel => exact ⟨false, _, t, rfl, hb4, hJ4, ⟨q, hq4⟩, HAT.out.2, fun h => by (cases h), fun _ => by rw [HX.out, HU.out, List.append_nil]⟩
            case measure => show (0 : Nat) < leftN B (.bool true) wr; rw [leftN, HBOX.out]; exact Nat.succ_pos _
          · have HU := Lib.hid (HU3.out rfl rfl)
            have HLT := Lib.hid (show t.length < cur.length by
              rcases HAB.out with ⟨_, _, _, h⟩ | ⟨h, _⟩
              · exact h
              · cases h)
            gi_wp2
            go_roundw
            case rel => exact ⟨true, _, t, rfl, hb4, hJ4, ⟨q, hq4⟩, HAT.out.2, fun _ => by rw [HX.out, HU.out], fun h => by (cases h)⟩
            case measure => rw [leftN, leftN, HBOX.out, hb4.cell]; have := HLT.out; show t.length + 1 < cur.length + 1; omega
      · gi_wp2
        refine bodyPost_ret (results_none rfl _ _ _) rfl ?_
        exact ⟨⟨_, rfl⟩, .inr ⟨_, ⟨tl, HX.out.symm⟩, hJx4⟩⟩
end Go.Proofs.YtbmdoekfbkpaeaaGreatDoor

namespace Go.Proofs.YtbmdoekfbkpaeaaGreatDoor
open Go.RowKit
attribute [local go_sem] Oper.semAt_some

theorem uptoL_true : ∀ ps : List (List UInt8), (∀ x ∈ uptoL ps, x.2 = true) → uptoL ps = ps.map (·, true) ∧ ps.all nameB = true
  | [], _ => by simp [uptoL]
  | p :: ps, h => by
    unfold uptoL at h ⊢
    split at h
    · rename_i hn
      have ih := uptoL_true ps (fun x hx => h x (List.mem_cons_of_mem _ hx))
      rw [if_pos hn, ih.1]
      simp [hn]
      simpa using ih.2
    · have h1 := h (p, false) (by simp)
      cases h1
theorem uptoL_false : ∀ ps : List (List UInt8), (∃ x ∈ uptoL ps, x.2 = false) → ps.all nameB = false
  | [], h => by obtain ⟨x, hx, _⟩ := h; simp [uptoL] at hx
  | p :: ps, h => by
    obtain ⟨x, hx, hf⟩ := h
    unfold uptoL at hx
    split at hx
    · rename_i hn
      rcases List.mem_cons.1 hx with h | h
      · rw [h] at hf; cases hf
      · have ih := uptoL_false ps ⟨x, h, hf⟩
        rw [List.all_cons, ih, Bool.and_false]
    · rename_i hn
      have : nameB p = false := by simpa using hn
      rw [List.all_cons, this, Bool.false_and]
theorem uptoL_len : ∀ ps : List (List UInt8), (uptoL ps).length ≤ ps.length
  | [] => Nat.le_refl _
  | p :: ps => by
    have ih := uptoL_len ps
    unfold uptoL
    split <;> simp
    exact ih

/-- Behind an append to a slice in a box, and its store into that box. -/
theorem append_step {W w1 : World} {base L t e k m : Nat} {v v' : Value} {xs ys : List Value} {tmp : Obj} (hv : Boxed W L t v) (hrow : W.ownsRow base e 1 v k xs) (hL : L < base) (hb : base ≤ W.heap.size)
    (hown' : w1.ownsRow base e 1 v' m ys) (hgrow : (W.alloc tmp).grownBy w1 v.ownBlock) :
    Boxed w1 L t v ∧ Boxed (w1.setCell ⟨L, 0, none⟩ v') L t v' ∧ (w1.setCell ⟨L, 0, none⟩ v').ownsRow base e 1 v' m ys ∧ KeepsOthers W (w1.setCell ⟨L, 0, none⟩ v') ∧
      (∀ k, k < base → k ≠ L → (w1.setCell ⟨L, 0, none⟩ v').heap[k]? = W.heap[k]?) ∧ ∀ n, n ≤ L → Below n W (w1.setCell ⟨L, 0, none⟩ v') := by
  have hne : ∀ j, j < base → some j ≠ v.ownBlock := fun j hj e => by have := (hrow.lt j e.symm).1; omega
  have hv1 : Boxed w1 L t v := (hv.alloc tmp).kept hgrow (hne L hL)
  have hs := hgrow.size
  simp only [World.size_alloc] at hs
  refine ⟨hv1, hv1.set v', hown'.kept (grownBy_setCell' w1 L v') ?_, ?_, ?_, ?_⟩
  · rcases hown'.2 with ⟨rfl, _⟩ | ⟨g, cap, cur, rfl, hbg, _⟩
    · exact .inl rfl
    · exact .inr (by simp [Value.ownBlock]; omega)
  · refine ((KeepsOthers.alloc W tmp).trans (KeepsOthers.of_grownBy hgrow ?_)).trans (KeepsOthers.setCell _ _ _)
    intro j o e ho
    rcases hrow.2 with ⟨rfl, _⟩ | ⟨g, cap, cur, rfl, hbg, hgg, _⟩
    · simp [Value.ownBlock] at e
    · simp [Value.ownBlock] at e
      subst e
      rw [Below.heap_alloc _ _ _ (Array.getElem?_eq_some_iff.1 hgg).1, hgg] at ho
      cases ho; rfl
  · intro j hj hjL
    rw [Below.heap_setCell _ _ _ _ hjL, hgrow.block j (by simp; omega) (hne j hj), Below.heap_alloc _ _ _ (by omega)]
  · intro n hn
    exact (((Below.refl n W).alloc (by omega) tmp).grown hgrow (by simp; omega) (fun j e => by have := (hrow.lt j e).1; omega)).setCell (p := ⟨L, 0, none⟩) hn v'

/-- What Split hands back. -/
def SplitPost (l : List UInt8) (w : World) (e : Ending) (w' : World) : Prop :=
  ∃ v, e = .returned v ∧ StrRow w' v (splitL l) ∧ (splitL l = [] → v = .slice none 0 0) ∧ Below w.heap.size w w'

/-- Between two rounds of Split. -/
def SplitI (w : World) (pre : List (List UInt8 × Bool)) (W : World) : Prop :=
  (Boxed W w.heap.size 32 (.slice none 0 0) ∧ ∃ v, Boxed W (w.heap.size + 1) 32 v ∧ W.ownsRow (w.heap.size + 3) 9 1 v pre.length (pre.map fun x => S x.1)) ∧
    (Below w.heap.size w W ∧ w.heap.size + 3 ≤ W.heap.size) ∧ (∀ x ∈ pre, x.2 = true) ∧ pre.length ≤ 8
/-- Where a round has left. -/
def SplitX (w : World) (c : Code) (pre : List (List UInt8 × Bool)) (W : World) : Prop :=
  (c = .ret ∧ ((∃ x ∈ pre, x.2 = false) ∨ 8 < pre.length)) ∧ Boxed W w.heap.size 32 (.slice none 0 0) ∧ Below w.heap.size w W ∧ w.heap.size + 3 ≤ W.heap.size

theorem splitI_bides (w : World) (N : Nat) (hN : w.heap.size + 3 ≤ N) : Bides (fun r => r = w.heap.size + 2) N (SplitI w) := by
  rintro s A B row ⟨⟨h1, v, h2, h3⟩, ⟨h4, h5⟩, h6⟩ hg hr
  exact ⟨⟨boxed_turn h1 hg hr (by omega), v, boxed_turn h2 hg hr (by omega), row_turn h3 hg hr (fun r e => by omega)⟩, ⟨below_turn h4 hg hr (fun r e => by omega) (by omega) (by omega), Nat.le_trans h5 hg.size⟩, h6⟩
theorem splitX_bides (w : World) (c : Code) (N : Nat) (hN : w.heap.size + 3 ≤ N) : Bides (fun r => r = w.heap.size + 2) N (SplitX w c) := by
  rintro s A B row ⟨h0, h1, h4, h5⟩ hg hr
  exact ⟨h0, boxed_turn h1 hg hr (by omega), below_turn h4 hg hr (fun r e => by omega) (by omega) (by omega), Nat.le_trans h5 hg.size⟩

theorem KpN.refl (n₀ B : Nat) (W : World) : KpN n₀ B W W := ⟨Nat.le_refl _, fun _ _ => rfl⟩
theorem KpN.trans {n₀ B : Nat} {X Y Z : World} (h : KpN n₀ B X Y) (k : KpN n₀ B Y Z) : KpN n₀ B X Z := ⟨Nat.le_trans h.1 k.1, fun i hi => (k.2 i hi).trans (h.2 i hi)⟩
theorem KpN.put {n₀ B : Nat} (W : World) (l : Nat) (o : Obj) (h : n₀ ≤ l) (h' : B < l) : KpN n₀ B W (W.putObj l o) :=
  ⟨by simp, fun k hk => World.putObj_heap_other (by omega)⟩
theorem KpN.allocs {n₀ B : Nat} (W : World) (o o' : Obj) (h : n₀ ≤ W.heap.size) (h' : B < W.heap.size) : KpN n₀ B W ((W.alloc o).alloc o') :=
  ⟨by simp; omega, fun k hk => (Below.heap_alloc _ _ _ (by simp; omega)).trans (Below.heap_alloc _ _ _ (by omega))⟩

theorem split_stop {l : List UInt8} {pre : List (List UInt8 × Bool)} (h : pre <+: uptoL (partsL l)) (hx : (∃ x ∈ pre, x.2 = false) ∨ 8 < pre.length) : splitL l = [] := by
  unfold splitL
  rw [if_neg]
  rintro ⟨h1, h2⟩
  rcases hx with ⟨x, hx, hf⟩ | hx
  · have := uptoL_false (partsL l) ⟨x, h.subset hx, hf⟩
    rw [h2] at this; cases this
  · have a1 := h.length_le
    have a2 := uptoL_len (partsL l)
    omega
theorem split_done {l : List UInt8} (h : ∀ x ∈ uptoL (partsL l), x.2 = true) (h8 : (uptoL (partsL l)).length ≤ 8) : splitL l = (uptoL (partsL l)).map (·.1) := by
  obtain ⟨h1, h2⟩ := uptoL_true _ h
  unfold splitL
  rw [h1] at h8
  rw [if_pos ⟨by simpa using h8, h2⟩, h1, List.map_map]
  exact (List.map_id _).symm

set_option maxHeartbeats 2000000 in
set_option maxRecDepth 100000 in
theorem split_walk (l : List UInt8) (w : World) (hm : Mx w) (hl : l.length ≤ 1100000) :
    Calls Tryz.prog 106 #[S l] w (SplitPost l w) := by
  obtain ⟨i0, hi, hz0, hz1, hz2⟩ := info_parts infoStr
  have hG : 0 < w.heap.size := by obtain ⟨m, hm⟩ := hm; exact lt_of_cell hm
  refine (callsIn_wide (n := 3)).1 ?_
  refine callsIn_of_wp_marks Tryz.func106 rfl trivial ?_ rfl
  simp only [Tryz.ntmps106, List.size_toArray, List.length_cons, List.length_nil, Nat.reduceAdd, Nat.reduceSub, Array.replicate_succ, Array.replicate_zero, List.push_toArray, List.append_toArray, List.nil_append, List.cons_append]
  gi_wp2_with (refine ⟨trivial, ?_⟩; gi_at_call 123; refine (callsIn_wide.2 (names_walk l _)).mono ?_; rintro e w' ⟨rfl, rfl⟩)
  have b0 := (Boxed.new w 32 (.slice none 0 0)).alloc (.cells #[.slice none 0 0] 32)
  have b1 := Boxed.new (w.alloc (.cells #[.slice none 0 0] 32)) 32 (.slice none 0 0)
  have b2 := Boxed.new ((w.alloc (.cells #[.slice none 0 0] 32)).alloc (.cells #[.slice none 0 0] 32)) 9 (S l)
  replace b0 := b0.alloc (.cells #[S l] 9)
  replace b1 := b1.alloc (.cells #[S l] 9)
  have hB0 : Below w.heap.size w (((w.alloc (.cells #[.slice none 0 0] 32)).alloc (.cells #[.slice none 0 0] 32)).alloc (.cells #[S l] 9)) := (((Below.refl _ _).alloc (Nat.le_refl _) _).alloc (by simp) _).alloc (by simp; omega) _
  have hS0 : (((w.alloc (.cells #[.slice none 0 0] 32)).alloc (.cells #[.slice none 0 0] 32)).alloc (.cells #[S l] 9)).heap.size = w.heap.size + 3 := by simp
  simp only [World.size_alloc] at b1 b2
  generalize (((w.alloc (.cells #[.slice none 0 0] 32)).alloc (.cells #[.slice none 0 0] 32)).alloc (.cells #[S l] 9)) = w0 at *
  have hm0 : Mx w0 := hm.below hB0
  refine range_law (gf := 136) (lb := #[.pointer (some ⟨w.heap.size + 2, 0, none⟩)]) rfl (enters_of Tryz.func136 (by kernel_rfl) rfl)
    (names_iter w.heap.size (w.heap.size + 2) l w0 b2 hm0 hG (by omega) hl) (fun r e => by omega) (fun h k => KpN.trans h k) (fun W l o h => KpN.put W l o (by omega) (by omega)) (fun o o' => KpN.allocs w0 o o' (by omega) (by omega)) (fun x => rfl)
    (SplitI w) (SplitX w) (splitI_bides w _ (by omega)) (fun c => splitX_bides w c _ (by omega)) ⟨⟨b0, _, b1, World.ownsRow_nil _ _ _ _⟩, ⟨hB0, by omega⟩, fun x hx => (by cases hx), Nat.zero_le _⟩
    (fun x a' _ => a' = { tmps := #[S l, undef, .pointer (some ⟨w.heap.size, 0, none⟩), .pointer (some ⟨w.heap.size + 1, 0, none⟩), S x.1, .bool x.2, S l, .func (.func 136) #[] #[.pointer (some ⟨w.heap.size + 1 + 1, 0, none⟩)], S x.1, .bool x.2, undef, undef, undef, undef, undef, undef, undef, undef, undef, undef, undef, undef], defers := [] })
    (fun x a' _ _ _ _ hs _ _ => hs) ?assign ?body ?done ?stop
  case assign =>
    intro ly pre x W K hI hK
    simp only [encN]
    gi_wp2
    exact hK _ _ (KeepsFrom.refl _ _) (KpN.refl _ _ _) hI rfl
  case body =>
    rintro ly pre ⟨p, b⟩ a' W hly _ ⟨⟨h0, v, h1, h2⟩, ⟨h4, h5⟩, h6, h7⟩ rfl hpx
    have c0 := h0.cell
    have f0 := h0.frozen
    have c1 := h1.cell
    have f1 := h1.frozen
    cases b
    · gi_wp2
      exact ⟨(KeepsOthers.setCell _ _ _).from _, ⟨rfl, .inl ⟨(p, false), by simp, rfl⟩⟩, h0.set _, h4.setCell (p := ⟨w.heap.size, 0, none⟩) (Nat.le_refl _) _, by rw [size_setCell]; exact h5⟩
    · obtain ⟨a, c, rfl⟩ : ∃ a c, v = .slice a pre.length c := by
        rcases h2.2 with ⟨h, hn⟩ | ⟨g, cap, _, h, _⟩
        · exact ⟨none, 0, by rw [h, hn]⟩
        · exact ⟨_, _, h⟩
      by_cases h8 : pre.length = 8
      · have hh : ((pre.length : Int) == 8) = true := by rw [h8]; rfl
        have H8 := Lib.hid h8
        clear h8
        gi_wp2
        exact ⟨(KeepsOthers.setCell _ _ _).from _, ⟨rfl, .inr (by simp; have := H8.out; omega)⟩, h0.set _, h4.setCell (p := ⟨w.heap.size, 0, none⟩) (Nat.le_refl _) _, by rw [size_setCell]; exact h5⟩
      · have hh : ((pre.length : Int) == 8) = false := by rw [beq_eq_false_iff_ne]; omega
        have H8 := Lib.hid h8
        clear h8
        gi_wp2_with (gi_at_builtin; refine wpListIn_append_own _ rfl _ _ 32 rfl (w.heap.size + 3) 9 i0 (.string ⟨#[]⟩) 1 16 Tryz.underlying32 hi hz0 hz1 hz2 rfl (by decide) _ _ _ rfl (h2.alloc _) ⟨W.heap.size, 0, none⟩ 1 1 [S p] rfl rfl (new_cell _ _ _) (by intro u hu; simp at hu; subst hu; rfl) (by unfold maxLen; omega) (by omega) (by simp; omega) ?_; intro v' w1 hown' hgrow _; obtain ⟨g', cap', rfl⟩ := ownsRow_succ hown'; obtain ⟨hv1, hv2, hr2, hk2, hb2, hB2⟩ := append_step h1 h2 (by omega) (by omega) hown' hgrow; have hc1 := hv1.cell; have hf1 := hv1.frozen)
        refine ⟨hk2.from _, ⟨hk2.size, fun k hk => hb2 k (by omega) (by omega)⟩, ⟨(hb2 w.heap.size (by omega) (by omega)).trans h0, _, hv2, by simpa using hr2⟩, ⟨h4.trans (hB2 w.heap.size (by omega)), Nat.le_trans h5 hk2.size⟩, ?_, by have := H8.out; simp; omega⟩
        intro x hx
        rcases List.mem_append.1 hx with h | h
        · exact h6 x h
        · rw [List.mem_singleton.1 h]
  case done =>
    rintro D W hD ⟨⟨h0, v, h1, h2⟩, ⟨h4, h5⟩, h6, h7⟩ hK
    have c0 := h0.cell
    have f0 := h0.frozen
    have c1 := h1.cell
    obtain ⟨a, c, rfl⟩ : ∃ a c, v = .slice a (uptoL (partsL l)).length c := by
      rcases h2.2 with ⟨h, hn⟩ | ⟨g, cap, _, h, _⟩
      · exact ⟨none, 0, by rw [h, hn]⟩
      · exact ⟨_, _, h⟩
    have HD6 := Lib.hid h6
    clear h6
    gi_wp2
    have hK' := (KeepsOthers.setCell W ⟨w.heap.size, 0, none⟩ (.slice a (uptoL (partsL l)).length c)).same D _ hK rfl
    have h0' := h0.set (.slice a (uptoL (partsL l)).length c)
    refine ⟨by simp, .inl ⟨_, _, rfl, run_takeDeferred hK', ?_⟩⟩
    have c0' := cell_kept h0'.cell (grownBy_putObj' _ D (.deferred none)) (fun r e => by cases e; exact ⟨_, hK', rfl⟩)
    have hrow : (W.setCell ⟨w.heap.size, 0, none⟩ (.slice a (uptoL (partsL l)).length c)).ownsRow (w.heap.size + 3) 9 1 (.slice a (uptoL (partsL l)).length c) (uptoL (partsL l)).length ((uptoL (partsL l)).map fun x => S x.1) := by
      refine h2.kept (grownBy_setCell' W w.heap.size _) ?_
      rcases h2.2 with ⟨h, hn⟩ | ⟨g, cap, cur, h, hbg, _⟩
      · rw [h]; exact .inl rfl
      · rw [h]; exact .inr (by simp [Value.ownBlock]; omega)
    replace hrow := ownsRow_putObj hrow (.deferred none) hK' rfl
    have hbl := (h4.setCell (p := ⟨w.heap.size, 0, none⟩) (Nat.le_refl _) (.slice a (uptoL (partsL l)).length c)).grown (grownBy_putObj' _ D (.deferred none)) (by rw [size_setCell]; omega) (fun k e => by cases e; omega)
    refine ⟨.slice a (uptoL (partsL l)).length c, by simp [results, Tryz.results106, go_sem, c0'], _, rfl, ?_, ?_, hbl⟩
    · rw [split_done HD6.out h7]
      refine StrRow.of_owns (base := w.heap.size + 3) (e := 9) ?_
      rw [List.length_map, List.map_map]
      exact hrow
    · intro hn
      rw [split_done HD6.out h7] at hn
      have hz : uptoL (partsL l) = [] := by simpa using hn
      rcases h2.2 with ⟨h, _⟩ | ⟨g, cap, cur, h, _⟩
      · exact h
      · exfalso
        have hne := partsL_ne (l)
        cases hp : partsL l with
        | nil => exact hne hp
        | cons q qs => rw [hp, uptoL] at hz; split at hz <;> simp at hz
  case stop =>
    rintro D c pre W hD hpre ⟨⟨rfl, hx⟩, h0, h4, h5⟩ hK
    have c0 := h0.cell
    gi_wp2
    refine ⟨by simp, .inl ⟨_, _, rfl, run_takeDeferred hK, ?_⟩⟩
    have c0' := cell_kept c0 (grownBy_putObj' W D (.deferred none)) (fun r e => by cases e; exact ⟨_, hK, rfl⟩)
    have hsp := split_stop hpre hx
    refine ⟨.slice none 0 0, by simp [results, Tryz.results106, go_sem, c0'], _, rfl, by rw [hsp]; exact StrRow.nil _, fun _ => rfl, h4.grown (grownBy_putObj' _ D (.deferred none)) (by omega) (fun k e => by cases e; omega)⟩

set_option maxHeartbeats 400000 in
theorem fit_walk (l : List UInt8) (w : World) (hm : Mx w) (hl : l.length ≤ 1100000) :
    Calls Tryz.prog 91 #[S l] w fun e w' => e = .returned (.bool (fitB l)) ∧ Below w.heap.size w w' := by
  have C := split_walk l w hm hl
  have HF := Lib.hid (show fitB l = decide (0 < (splitL l).length) from rfl)
  unfold SplitPost at C
  generalize fitB l = fb at HF ⊢
  generalize splitL l = sp at C HF
  have e1 := fun (w : World) (a : Option Addr) (n c : Nat) => run_neq_slice_nil_any (P := Tryz.prog) w 32 9 a n c 0 0 Tryz.underlying32
  cases sp with
  | nil =>
    go_enter Tryz.func91, Tryz.ntmps91
    go_wp2_with (go_at_call 106; refine C.mono ?_; rintro e w1 ⟨v, rfl, _, hv, hb⟩; rw [hv rfl])
    go_ret
    exact ⟨ret_bool (by rw [HF.out]; rfl), hb⟩
  | cons p ps =>
    go_enter Tryz.func91, Tryz.ntmps91
    go_wp2_with (go_at_call 106; refine C.mono ?_; rintro e w1 ⟨v, rfl, ⟨a, c, rfl, hc, hm, hx⟩, hv, hb⟩)
    go_ret
    rcases hx with hx | ⟨b, o, rfl, _⟩
    · cases hx
    · exact ⟨ret_bool (by rw [HF.out]; simp), hb⟩
end Go.Proofs.YtbmdoekfbkpaeaaGreatDoor
