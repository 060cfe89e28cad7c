/- path.names: an iterator over a path's names, up to the first that is none. -/
import Derived.Test.YtbmdoekfbkpaeaaGreatDoorJPPut12
import Derived.Test.YtbmdoekfbkpaeaaGreatDoorJIdxPrt
namespace Go.Proofs.YtbmdoekfbkpaeaaGreatDoor
open Go.RowKit
attribute [local go_sem] Oper.semAt_some

theorem index_slash : ∀ l : List UInt8, (Lib.index l [47] = -1 ∧ ∀ c ∈ l, c ≠ 47) ∨ (0 ≤ Lib.index l [47] ∧ l = l.take (Lib.index l [47]).toNat ++ 47 :: l.drop ((Lib.index l [47]).toNat + 1) ∧ ∀ c ∈ l.take (Lib.index l [47]).toNat, c ≠ 47)
  | [] => .inl ⟨rfl, fun c hc => by cases hc⟩
  | b :: l => by
    have ih := index_slash l
    have hp : [47].isPrefixOf (b :: l) = (47 == b) := by simp [List.isPrefixOf]
    rw [Lib.index, hp]
    by_cases hb : b = 47
    · subst hb
      right
      simp
    · have hb' : ((47 : UInt8) == b) = false := by rw [beq_eq_false_iff_ne]; exact fun e => hb e.symm
      rw [hb']
      simp only [Bool.false_eq_true, if_false]
      rcases ih with ⟨h1, h2⟩ | ⟨h1, h2, h3⟩
      · left
        rw [h1]
        refine ⟨rfl, fun c hc => ?_⟩
        rcases List.mem_cons.1 hc with h | h
        · rw [h]; exact hb
        · exact h2 c h
      · right
        have hn : (Lib.index l [47] == -1) = false := by rw [beq_eq_false_iff_ne]; omega
        rw [hn]
        simp only [Bool.false_eq_true, if_false]
        have ht : (Lib.index l [47] + 1).toNat = (Lib.index l [47]).toNat + 1 := by omega
        rw [ht]
        refine ⟨by omega, ?_, ?_⟩
        · rw [List.take_succ_cons, List.drop_succ_cons, List.cons_append, ← h2]
        · intro c hc
          rw [List.take_succ_cons] at hc
          rcases List.mem_cons.1 hc with h | h
          · rw [h]; exact hb
          · exact h3 c h

theorem cut_slash (l : List UInt8) : ∃ a t b, Lib.cut l [47] = (a, t, b) ∧ ((b = true ∧ l = a ++ 47 :: t ∧ partsL l = a :: partsL t ∧ t.length < l.length) ∨ (b = false ∧ a = l ∧ t = [] ∧ partsL l = [l])) := by
  rcases index_slash l with ⟨h1, h2⟩ | ⟨h1, h2, h3⟩
  · exact ⟨l, [], false, by rw [Lib.cut, h1]; rfl, .inr ⟨rfl, rfl, rfl, partsL_noslash l h2⟩⟩
  · refine ⟨_, _, true, by rw [Lib.cut, if_pos h1]; rfl, .inl ⟨rfl, h2, ?_, ?_⟩⟩
    · conv => lhs; rw [h2]
      rw [partsL_slash _ _ h3]
    · have := congrArg List.length h2; simp at this ⊢; omega

/-- The names that are handed out: up to the first that is none. -/
def uptoL : List (List UInt8) → List (List UInt8 × Bool)
  | [] => []
  | p :: ps => if nameB p = true then (p, true) :: uptoL ps else [(p, false)]

def encN (x : List UInt8 × Bool) : Array Value := #[S x.1, .bool x.2]
/-- What a round must keep of the iterator's. -/
def KpN (n₀ B : Nat) (W W' : World) : Prop := W.heap.size ≤ W'.heap.size ∧ ∀ k, k < n₀ ∨ k = B → W'.heap[k]? = W.heap[k]?

/-- How many bytes are still to be gone through. -/
def leftN (B : Nat) (more : Value) (W : World) : Nat :=
  match more with
  | .bool true => (match W.cell? ⟨B, 0, none⟩ with | some (.string s) => s.size + 1 | _ => 0)
  | _ => 0

theorem grown_of_below {W W' : World} (h : Below W.heap.size W W') : W.grownBy W' none := ⟨h.os, h.tape, h.output, h.size, fun k hk _ => h.block k hk⟩

set_option maxHeartbeats 1100000 in
theorem names_walk (l : List UInt8) (w : World) :
    Calls Tryz.prog 123 #[S l] w fun e w' => e = .returned (.func (.func 136) #[] #[.pointer (some ⟨w.heap.size, 0, none⟩)]) ∧ w' = w.alloc (.cells #[S l] 9) := by
  go_enter Tryz.func123, Tryz.ntmps123
  go_wp2
  go_ret
  exact ⟨rfl, rfl⟩

set_option maxHeartbeats 2000000 in
set_option maxRecDepth 100000 in
theorem names_iter (n₀ B : Nat) (l : List UInt8) (w : World) (hB : Boxed w B 9 (S l)) (hm : Mx w) (hG : 0 < n₀) (hBn : n₀ ≤ B) (hl : l.length ≤ 1100000) :
    IterOf Tryz.prog 136 #[.pointer (some ⟨B, 0, none⟩)] (fun r => r = B) (KpN n₀ B) encN (uptoL (partsL l)) w := by
  intro ly J Jx W hKp hsz hJ hJx hY h0
  have hBW : Boxed W B 9 (S l) := (hKp.2 B (.inr rfl)).trans hB
  have hmW : ∃ m, W.cell? ⟨0, 0, none⟩ = some (.int .i64 m) := by
    obtain ⟨m, hm⟩ := hm
    exact ⟨m, (World.cell?_of_block (a := ⟨0, 0, none⟩) (hKp.2 _ (.inl hG))).trans hm⟩
  refine (callsIn_wide (n := 3)).1 ?_
  refine callsIn_of_wp Tryz.func136 rfl trivial ?_ rfl
  simp only [Tryz.ntmps136, List.size_toArray, List.length_cons, List.length_nil, Nat.reduceAdd, Nat.reduceSub, Array.replicate_succ, Array.replicate_zero, List.push_toArray, List.append_toArray, List.nil_append, List.cons_append]
  gi_wp2
  gi_loopw [3, 4, 5] (fun more _ _ wr => ∃ (m : Bool) (pre : List (List UInt8 × Bool)) (cur : List UInt8), more = .bool m ∧ Boxed wr B 9 (S cur) ∧ J pre wr ∧ (∃ q, wr.cell? ⟨0, 0, none⟩ = some (.int .i64 q)) ∧ cur.length ≤ 1100000 ∧
      (m = true → uptoL (partsL l) = pre ++ uptoL (partsL cur)) ∧ (m = false → pre = uptoL (partsL l)))
    (fun more _ _ wr => leftN B more wr)
  case atStart => exact ⟨true, [], l, rfl, hBW, h0, hmW, hl, fun _ => rfl, fun h => by cases h⟩
  case round =>
    obtain ⟨m, pre, cur, rfl, hbox, hJp, hmq, hcl, hT, hF⟩ := hrel
    cases m
    · have HF := Lib.hid (hF rfl)
      clear hT hF
      gi_wp2
      go_end0
      exact ⟨⟨_, rfl⟩, .inl (by rw [← HF.out]; exact hJp)⟩
    · have HT := Lib.hid (hT rfl)
      clear hT hF
      obtain ⟨q, hq⟩ := hmq
      obtain ⟨a, t, b, hcut, hab⟩ := cut_slash cur
      have hc := hbox.cell
      have hf := hbox.frozen
      have C1 := Tryz.strings_Cut ⟨cur.toArray⟩ ⟨[47].toArray⟩ q wr (by show cur.length < _; omega) hq
      have e1 : Lib.cut (({ data := cur.toArray } : ByteArray).data.toList) (({ data := [47].toArray } : ByteArray).data.toList) = (a, t, b) := hcut
      rw [e1] at C1
      clear e1 hcut
      have HAB := Lib.hid hab
      gi_wp2_with (refine ⟨trivial, ?_⟩; gi_at_call 137; refine (callsIn_wide.2 C1).mono ?_; rintro e w1 ⟨rfl, nd, rfl⟩)
      have hba : Boxed ((wr.drewN nd).setCell ⟨B, 0, none⟩ (S t)) B 9 (S t) := Boxed.set (W := wr.drewN nd) (S t) hbox
      have hJ2 : J pre ((wr.drewN nd).setCell ⟨B, 0, none⟩ (S t)) :=
        hJ pre (wr.drewN nd) _ (some B) (hJ pre wr _ none hJp ⟨rfl, rfl, rfl, Nat.le_refl _, fun _ _ _ => rfl⟩ (fun r e => by cases e)) (grownBy_setCell' _ _ _) (fun r e => by cases e; exact .inl rfl)
      have hq2 : ((wr.drewN nd).setCell ⟨B, 0, none⟩ (S t)).cell? ⟨0, 0, none⟩ = some (.int .i64 q) := (World.cell?_setCell_other _ _ _ _ (by intro e; have := congrArg Addr.block e; simp at this; omega)).trans hq
      have HAT := Lib.hid (show a.length ≤ 1100000 ∧ t.length ≤ 1100000 by
        rcases hab with ⟨_, h, _, h2⟩ | ⟨_, h1, h2, _⟩
        · have := congrArg List.length h; simp at this; omega
        · subst h1; subst h2; simp; exact hcl)
      have HBOX := Lib.hid hbox.cell
      clear hab hc hf C1 hbox hJp hq
      generalize (wr.drewN nd).setCell ⟨B, 0, none⟩ (S t) = w2 at *
      refine ⟨trivial, callsIn_wide.2 ((name_walk a w2 HAT.out.1).mono ?_)⟩
      rintro e w3 ⟨rfl, hb3⟩
      have hJ3 : J pre w3 := hJ pre w2 w3 none hJ2 (grown_of_below hb3) (fun r e => by cases e)
      have hbx3 : Boxed w3 B 9 (S t) := (hb3.block B hba.lt).trans hba
      have hq3 := cell_below hb3 hq2
      clear hJ2 hba hq2 hb3
      have hU : ∃ tl, uptoL (partsL cur) = (a, nameB a) :: tl ∧ (nameB a = false → tl = []) ∧ (nameB a = true → b = true → tl = uptoL (partsL t)) ∧ (b = false → tl = []) := by
        rcases HAB.out with ⟨h1, _, h2, _⟩ | ⟨h1, h2, _, h3⟩
        · rw [h2, uptoL]
          by_cases hn : nameB a = true
          · rw [if_pos hn, hn]; exact ⟨_, rfl, by simp, fun _ _ => rfl, by simp [h1]⟩
          · rw [if_neg hn]; have : nameB a = false := by simpa using hn
            rw [this]; exact ⟨_, rfl, fun _ => rfl, by simp, fun _ => rfl⟩
        · rw [h3, ← h2, uptoL]
          by_cases hn : nameB a = true
          · rw [if_pos hn, hn]; exact ⟨_, rfl, by simp, by simp [h1], fun _ => rfl⟩
          · rw [if_neg hn]; have : nameB a = false := by simpa using hn
            rw [this]; exact ⟨_, rfl, fun _ => rfl, by simp, fun _ => rfl⟩
      obtain ⟨tl, hU1, hU2, hU3, hU4⟩ := hU
      have hX : uptoL (partsL l) = (pre ++ [(a, nameB a)]) ++ tl := by rw [HT.out, hU1]; simp
      obtain ⟨fn, tmps, assign, body, hy, hR⟩ := hY pre (a, nameB a) w3 hJ3 ⟨tl, hX.symm⟩
      have HU2 := Lib.hid hU2
      have HU3 := Lib.hid hU3
      have HU4 := Lib.hid hU4
      have HX := Lib.hid hX
      clear hU1 hU2 hU3 hU4 hX
      generalize nameB a = na at *
      simp only [encN] at hy
      gi_wp2
      refine hR.mono ?_
      rintro e w4 (⟨rfl, hJ4, hk4⟩ | ⟨rfl, hJx4⟩)
      · cases na
        · have HU := Lib.hid (HU2.out rfl)
          gi_wp2
          refine bodyPost_ret (results_none rfl _ _ _) rfl ?_
          exact ⟨⟨_, rfl⟩, .inl (by rw [HX.out, HU.out, List.append_nil]; exact hJ4)⟩
        · have hb4 : Boxed w4 B 9 (S t) := (hk4.2 B (.inr rfl)).trans hbx3
          have hq4 : w4.cell? ⟨0, 0, none⟩ = some (.int .i64 q) := (World.cell?_of_block (a := ⟨0, 0, none⟩) (hk4.2 _ (.inl hG))).trans hq3
          clear hbx3 hq3
          cases b
          · have HU := Lib.hid (HU4.out rfl)
            gi_wp2
            go_roundw
            case rel => exact ⟨false, _, t, rfl, hb4, hJ4, ⟨q, hq4⟩, HAT.out.2, fun h => by (cases h), fun _ => by rw [HX.out, HU.out, List.append_nil]⟩
            case measure => show (0 : Nat) < leftN B (.bool true) wr; rw [leftN, HBOX.out]; exact Nat.succ_pos _
          · have HU := Lib.hid (HU3.out rfl rfl)
            have HLT := Lib.hid (show t.length < cur.length by
              rcases HAB.out with ⟨_, _, _, h⟩ | ⟨h, _⟩
              · exact h
              · cases h)
            gi_wp2
            go_roundw
            case rel => exact ⟨true, _, t, rfl, hb4, hJ4, ⟨q, hq4⟩, HAT.out.2, fun _ => by rw [HX.out, HU.out], fun h => by (cases h)⟩
            case measure => rw [leftN, leftN, HBOX.out, hb4.cell]; have := HLT.out; show t.length + 1 < cur.length + 1; omega
      · gi_wp2
        refine bodyPost_ret (results_none rfl _ _ _) rfl ?_
        exact ⟨⟨_, rfl⟩, .inr ⟨_, ⟨tl, HX.out.symm⟩, hJx4⟩⟩
end Go.Proofs.YtbmdoekfbkpaeaaGreatDoor
