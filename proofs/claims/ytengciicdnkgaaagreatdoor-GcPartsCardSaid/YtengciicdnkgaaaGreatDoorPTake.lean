/- varint.groups and Take: a range over a function. -/
import Derived.Test.YtengciicdnkgaaaGreatDoorRange
import Derived.Test.YtengciicdnkgaaaGreatDoorTurns
import Derived.Test.YtengciicdnkgaaaGreatDoorAny
import Derived.Test.YtengciicdnkgaaaGreatDoorJVar
import Derived.Test.YtengciicdnkgaaaGreatDoorCellsU
import Derived.Test.YtengciicdnkgaaaGreatDoorCellsB
import Derived.Maps.AppendAt
import Derived.RangeFuncBox
namespace Go.Proofs.YtengciicdnkgaaaGreatDoor
open Go.RowKit
attribute [local go_sem] Oper.semAt_some

/-- What groups hands out. -/
def grpL : Nat → List UInt8 → List (Nat × Bool)
  | 0, _ => []
  | _, [] => []
  | f + 1, c :: cs => if c.toNat < 128 then [(c.toNat % 128, true)] else (c.toNat % 128, false) :: grpL f cs
def encG (x : Nat × Bool) : Array Value := #[.int .u64 x.1, .bool x.2]

theorem grpL_at {l : List UInt8} {i : Nat} (h : i < l.length) (h10 : i < 10) : grpL (10 - i) (l.drop i) = if l[i].toNat < 128 then [(l[i].toNat % 128, true)] else (l[i].toNat % 128, false) :: grpL (10 - (i + 1)) (l.drop (i + 1)) := by
  rw [List.drop_eq_getElem_cons h, show 10 - i = (10 - (i + 1)) + 1 by omega, grpL]
theorem grpL_end {l : List UInt8} {i : Nat} (h : ¬ (i < l.length ∧ i < 10)) : grpL (10 - i) (l.drop i) = [] := by
  by_cases h1 : i < 10
  · rw [List.drop_eq_nil_of_le (by omega), show 10 - i = (10 - (i + 1)) + 1 by omega]; rfl
  · rw [show 10 - i = 0 by omega]; rfl

set_option maxHeartbeats 1100000 in
theorem groups_walk (l : List UInt8) (w : World) :
    Calls Tryz.prog 125 #[S l] w fun e w' => e = .returned (.func (.func 127) #[] #[.pointer (some ⟨w.heap.size, 0, none⟩)]) ∧ w' = w.alloc (.cells #[S l] 9) := by
  go_enter Tryz.func125, Tryz.ntmps125
  go_wp2
  go_ret
  exact ⟨rfl, rfl⟩

/-- What a round must keep of the iterator's: its box. -/
def KpG (B : Nat) (W W' : World) : Prop := W.heap.size ≤ W'.heap.size ∧ W'.heap[B]? = W.heap[B]?
theorem KpG.refl (B : Nat) (W : World) : KpG B W W := ⟨Nat.le_refl _, rfl⟩
theorem KpG.trans {B : Nat} {X Y Z : World} (h : KpG B X Y) (k : KpG B Y Z) : KpG B X Z := ⟨Nat.le_trans h.1 k.1, k.2.trans h.2⟩
theorem KpG.put {B : Nat} (W : World) (l : Nat) (o : Obj) (h' : B < l) : KpG B W (W.putObj l o) := ⟨by simp, World.putObj_heap_other (by omega)⟩
theorem KpG.allocs {B : Nat} (W : World) (o o' : Obj) (h' : B < W.heap.size) : KpG B W ((W.alloc o).alloc o') :=
  ⟨by simp; omega, (Below.heap_alloc _ _ _ (by simp; omega)).trans (Below.heap_alloc _ _ _ (by omega))⟩

theorem and127' : ∀ x : Fin 256, bits BinOp.and IntKind.u8 ((x.val : Nat) : Int) 127 = ((x.val % 128 : Nat) : Int) := by decide +kernel
theorem and127 (c : UInt8) : bits BinOp.and IntKind.u8 (c.toNat : Int) 127 = ((c.toNat % 128 : Nat) : Int) := and127' ⟨c.toNat, UInt8.toNat_lt c⟩

set_option maxHeartbeats 2000000 in
set_option maxRecDepth 100000 in
theorem groups_iter (B : Nat) (l : List UInt8) (w : World) (hB : Boxed w B 9 (S l)) (hl : l.length ≤ 1100000) :
    IterOf Tryz.prog 127 #[.pointer (some ⟨B, 0, none⟩)] (fun _ => False) (KpG B) encG (grpL 10 l) w := by
  intro ly J Jx W hKp hsz hJ hJx hY h0
  have hBW : Boxed W B 9 (S l) := hKp.2.trans hB
  refine (callsIn_wide (n := 3)).1 ?_
  refine callsIn_of_wp Tryz.func127 rfl trivial ?_ rfl
  simp only [Tryz.ntmps127, List.size_toArray, List.length_cons, List.length_nil, Nat.reduceAdd, Nat.reduceSub, Array.replicate_succ, Array.replicate_zero, List.push_toArray, List.append_toArray, List.nil_append, List.cons_append]
  have hbc := hBW.cell
  have hmin : Int.toNat (min (l.length : Int) 10) = min l.length 10 := by omega
  gi_wp2
  gi_loopw [8] (fun i wr => ∃ (k : Nat) (pre : List (Nat × Bool)), i = .int .i64 k ∧ Boxed wr B 9 (S l) ∧ J pre wr ∧ k ≤ 10 ∧ grpL 10 l = pre ++ grpL (10 - k) (l.drop k)) (fun i _ => 10 - (intOf i).toNat)
  case atStart => exact ⟨0, [], rfl, hBW, h0, by omega, rfl⟩
  case round =>
    obtain ⟨k, pre, rfl, hbox, hJp, hk10, hg⟩ := hrel
    have hbc := hbox.cell
    by_cases h1 : k < l.length ∧ k < 10
    · obtain ⟨h2, h3⟩ := h1
      have h4 : (k : Int) < min (l.length : Int) 10 := by omega
      have h5 : (k : Int) < (l.length : Int) := by omega
      have HG := Lib.hid (hg.trans (congrArg (pre ++ ·) (grpL_at h2 h3)))
      have ha0 := and127 l[k]
      have hc80 := UInt8.toNat_lt l[k]
      obtain ⟨c, hcd⟩ : ∃ c, c = l[k].toNat := ⟨_, rfl⟩
      have hc : (({ data := l.toArray } : ByteArray)[k]'h2).toNat = c := hcd.symm
      rw [← hcd] at HG ha0 hc80
      have ha : bits BinOp.and IntKind.u8 (c : Int) 127 = (c : Int) % 128 := by rw [ha0]; omega
      have hw : IntKind.u64.wrap ((c : Int) % 128) = (c : Int) % 128 := by rw [IntKind.wrap_u64]; omega
      clear hcd hg ha0
      by_cases hlt : c < 128
      · have hlt' : (c : Int) < 128 := by omega
        have HX := Lib.hid (HG.out.trans (congrArg (pre ++ ·) (if_pos hlt)))
        obtain ⟨fn, tmps, assign, body, hy, hR⟩ := hY pre (c % 128, true) wr hJp ⟨[], by rw [List.append_nil]; exact HX.out.symm⟩
        rw [show encG (c % 128, true) = #[.int .u64 ((c : Int) % 128), .bool true] by simp [encG]] at hy
        gi_wp2
        refine hR.mono ?_
        rintro e w4 (⟨rfl, hJ4, hk4⟩ | ⟨rfl, hJx4⟩)
        · gi_wp2
          refine bodyPost_ret (results_none rfl _ _ _) rfl ?_
          exact ⟨⟨_, rfl⟩, .inl (by rw [HX.out]; exact hJ4)⟩
        · gi_wp2
          refine bodyPost_ret (results_none rfl _ _ _) rfl ?_
          exact ⟨⟨_, rfl⟩, .inr ⟨_, ⟨[], by rw [List.append_nil]; exact HX.out.symm⟩, hJx4⟩⟩
      · have hlt' : ¬ (c : Int) < 128 := by omega
        have HX := Lib.hid (show grpL 10 l = (pre ++ [(c % 128, false)]) ++ grpL (10 - (k + 1)) (l.drop (k + 1)) by rw [HG.out, if_neg hlt]; simp)
        obtain ⟨fn, tmps, assign, body, hy, hR⟩ := hY pre (c % 128, false) wr hJp ⟨_, HX.out.symm⟩
        rw [show encG (c % 128, false) = #[.int .u64 ((c : Int) % 128), .bool false] by simp [encG]] at hy
        gi_wp2
        refine hR.mono ?_
        rintro e w4 (⟨rfl, hJ4, hk4⟩ | ⟨rfl, hJx4⟩)
        · have hb4 : Boxed w4 B 9 (S l) := hk4.2.trans hbox
          gi_wp2
          go_roundw
          case rel => exact ⟨k + 1, _, by go_num, hb4, hJ4, by omega, HX.out⟩
          case measure => simp [intOf]; omega
        · gi_wp2
          refine bodyPost_ret (results_none rfl _ _ _) rfl ?_
          exact ⟨⟨_, rfl⟩, .inr ⟨_, ⟨_, HX.out.symm⟩, hJx4⟩⟩
    · have h4 : ¬ (k : Int) < min (l.length : Int) 10 := by omega
      have HX := Lib.hid (show grpL 10 l = pre by rw [hg, grpL_end h1, List.append_nil])
      clear hg
      gi_wp2
      go_end0
      exact ⟨⟨_, rfl⟩, .inl (by rw [HX.out]; exact hJp)⟩
end Go.Proofs.YtengciicdnkgaaaGreatDoor
