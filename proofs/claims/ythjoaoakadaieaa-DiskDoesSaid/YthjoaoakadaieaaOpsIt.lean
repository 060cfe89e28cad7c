/- disk.ops: an iterator over what may be lost. -/
import Derived.Test.YthjoaoakadaieaaRange
import Derived.Test.YthjoaoakadaieaaMAct
namespace Go.Proofs.Ythjoaoakadaieaa
open Go.RowKit
attribute [local go_sem] Oper.semAt_some

def opsAt (l : List DF) (i : Nat) : List Opn := match l[i]? with | some f => f.ops | none => []
/-- What the first k files may lose, each with its file's number. -/
def opsTo (l : List DF) (k : Nat) : List (Nat × Opn) := (List.range k).flatMap fun i => (opsAt l i).map fun o => (i, o)
theorem opsTo_succ (l : List DF) (k : Nat) : opsTo l (k + 1) = opsTo l k ++ (opsAt l k).map fun o => (k, o) := by
  unfold opsTo; rw [List.range_succ, List.flatMap_append]; simp
theorem opsAt_get {l : List DF} {k : Nat} (h : k < l.length) : opsAt l k = l[k].ops := by
  unfold opsAt; rw [List.getElem?_eq_getElem h]
theorem opsTo_mono (l : List DF) (k : Nat) : ∀ m, opsTo l k <+: opsTo l (k + m)
  | 0 => List.prefix_refl _
  | m + 1 => (opsTo_mono l k m).trans (by rw [← Nat.add_assoc, opsTo_succ]; exact List.prefix_append _ _)
def encO (x : Nat × Opn) : Array Value := #[.int .i64 x.1, OpV x.2]

/-- What a round must keep: what lay below n₀, and block B. -/
def KpO (n₀ B : Nat) (W W' : World) : Prop := W.heap.size ≤ W'.heap.size ∧ ∀ k, k < n₀ ∨ k = B → W'.heap[k]? = W.heap[k]?
theorem size_keep {w W : World} (h : ∀ i, i < w.heap.size → W.heap[i]? = w.heap[i]?) : w.heap.size ≤ W.heap.size := by
  rcases Nat.lt_or_ge W.heap.size w.heap.size with hl | hl
  · have h1 := h _ hl
    rw [Array.getElem?_eq_none (Nat.le_refl _), Array.getElem?_eq_getElem hl] at h1; cases h1
  · exact hl
theorem KpO.trans {n₀ B : Nat} {X Y Z : World} (h : KpO n₀ B X Y) (k : KpO n₀ B Y Z) : KpO n₀ B X Z := ⟨Nat.le_trans h.1 k.1, fun i hi => (k.2 i hi).trans (h.2 i hi)⟩
theorem KpO.put {n₀ B : Nat} (W : World) (l : Nat) (o : Obj) (h : n₀ ≤ l) (h' : B < l) : KpO n₀ B W (W.putObj l o) :=
  ⟨by simp, fun k hk => World.putObj_heap_other (by omega)⟩
theorem KpO.alloc {n₀ B : Nat} (W : World) (o : Obj) (h : n₀ ≤ W.heap.size) (h' : B < W.heap.size) : KpO n₀ B W (W.alloc o) :=
  ⟨by simp, fun k hk => Below.heap_alloc _ _ _ (by omega)⟩

set_option maxHeartbeats 1000000 in
theorem ops_walk (v : Value) (off : Bool) (fuse : Int) (w : World) :
    Calls Try.prog 41 #[DiskV v off fuse] w fun e w' => e = .returned (.func (.func 71) #[] #[.pointer (some ⟨w.heap.size, 0, none⟩)]) ∧ w' = w.alloc (.cells #[v, .bool off, .int .i64 fuse] 35) := by
  go_enter Try.func41, Try.ntmps41
  go_wp2
  go_ret
  exact ⟨rfl, rfl⟩

set_option maxHeartbeats 4000000 in
set_option maxRecDepth 100000 in
theorem ops_iter (B : Nat) (v : Value) (off : Bool) (fuse : Int) (l : List DF) (w0 w : World) (hr : FilesR w0 v l) (hB : w.heap[B]? = some (.cells #[v, .bool off, .int .i64 fuse] 35 (0, 0))) (hw : ∀ i, i < w0.heap.size → w.heap[i]? = w0.heap[i]?) (hcnt : l.length ≤ 1000) (hol : ∀ x ∈ l, x.ops.length ≤ 1000) :
    IterOf Try.prog 71 #[.pointer (some ⟨B, 0, none⟩)] (fun _ => False) (KpO w0.heap.size B) encO (opsTo l l.length) w := by
  intro ly J Jx W hKp hsz hJ hJx hY h0
  obtain ⟨⟨a, c, rfl, hc, hcm, hx⟩, hops⟩ := hr
  have hBW : W.heap[B]? = some (.cells #[.slice a l.length c, .bool off, .int .i64 fuse] 35 (0, 0)) := (hKp.2 B (.inr rfl)).trans hB
  have hold : ∀ i, i < w0.heap.size → W.heap[i]? = w0.heap[i]? := fun i hi => (hKp.2 i (.inl hi)).trans (hw i hi)
  have c0 := heap_cell hBW (j := 0) (v := .slice a l.length c) rfl
  have HX := Lib.hid hx
  have HOPS := Lib.hid hops
  have HY := Lib.hid hY
  clear hx hops hY hKp hB hw hBW
  refine (callsIn_wide (n := 3)).1 ?_
  refine callsIn_of_wp Try.func71 rfl trivial ?_ rfl
  simp only [Try.ntmps71, List.size_toArray, List.length_cons, List.length_nil, Nat.reduceAdd, Nat.reduceSub, Array.replicate_succ, Array.replicate_zero, List.push_toArray, List.append_toArray, List.nil_append, List.cons_append]
  gi_wp2
  gi_loopw [10, 18] (fun i _ wr => ∃ k : Nat, k ≤ l.length ∧ i = .int .i64 k ∧ J (opsTo l k) wr ∧ (∀ i, i < w0.heap.size → wr.heap[i]? = w0.heap[i]?) ∧ W.heap.size ≤ wr.heap.size)
    (fun i _ wr => l.length - (intOf i).toNat)
  case atStart => exact ⟨0, Nat.zero_le _, rfl, h0, hold, Nat.le_refl _⟩
  case round =>
    obtain ⟨k, hk, rfl, hJk, hwk, hzk⟩ := hrel
    by_cases h1 : k < l.length
    · have h1' : (k : Int) < (l.length : Int) := by omega
      have hx := HX.out
      rcases hx with hx | ⟨b, o, rfl, hx⟩
      · exfalso; rw [hx] at h1; simp at h1
      obtain ⟨hx1, hx2, hx3⟩ := df_cells hx h1
      have e1 := cell_keep hwk (Nat.le_refl _) hx1
      have e2 := cell_keep hwk (Nat.le_refl _) hx2
      have e3 := cell_keep hwk (Nat.le_refl _) hx3
      have hor := HOPS.out l[k] (by simp)
      have hos := hol l[k] (by simp)
      have HAT := Lib.hid (opsAt_get h1)
      have HSUCC := Lib.hid (opsTo_succ l k)
      have HMON := Lib.hid (show opsTo l (k + 1) <+: opsTo l l.length by have := opsTo_mono l (k + 1) (l.length - (k + 1)); rwa [show k + 1 + (l.length - (k + 1)) = l.length by omega] at this)
      clear hx hx1 hx2 hx3
      generalize l[k] = y at *
      obtain ⟨nm, dt, ov, os⟩ := y
      simp only at e1 e2 e3 hor hos HAT
      rw [HAT.out] at HSUCC
      obtain ⟨oa, oc, rfl, hoc, hocm, ho⟩ := hor
      have HO := Lib.hid ho
      clear ho HAT
      gi_wp2
      gi_loopw [18] (fun j w3 => ∃ m : Nat, m ≤ os.length ∧ j = .int .i64 m ∧ J (opsTo l k ++ (os.take m).map fun o => (k, o)) w3 ∧ (∀ i, i < w0.heap.size → w3.heap[i]? = w0.heap[i]?) ∧ W.heap.size ≤ w3.heap.size)
        (fun j w3 => os.length - (intOf j).toNat)
      case atStart => exact ⟨0, Nat.zero_le _, rfl, by simpa using hJ _ _ _ none hJk (World.grownBy_alloc wr _ none) (fun r e => by cases e), fun i hi => (Below.heap_alloc _ _ _ (by have := size_keep hwk; omega)).trans (hwk i hi), by rw [World.size_alloc]; omega⟩
      case round =>
        obtain ⟨m, hm, rfl, hJm, hw3, hz3⟩ := hrel
        by_cases h2 : m < os.length
        · have h2' : (m : Int) < (os.length : Int) := by omega
          have ho := HO.out
          rcases ho with ho | ⟨b2, o2, rfl, ho⟩
          · exfalso; rw [ho] at h2; simp at h2
          obtain ⟨ho1, ho2⟩ := op_cells ho h2
          have p1 := cell_keep hw3 (Nat.le_refl _) ho1
          have p2 := cell_keep hw3 (Nat.le_refl _) ho2
          have HTK := Lib.hid (show (opsTo l k ++ (os.take m).map fun o => (k, o)) ++ [(k, os[m])] = opsTo l k ++ (os.take (m + 1)).map fun o => (k, o) by rw [List.append_assoc]; congr 1; rw [List.take_succ_eq_append_getElem h2, List.map_append]; rfl)
          have HPR := Lib.hid (show (opsTo l k ++ (os.take m).map fun o => (k, o)) ++ [(k, os[m])] <+: opsTo l l.length by
            rw [HTK.out]
            refine List.IsPrefix.trans ⟨(os.drop (m + 1)).map fun o => (k, o), ?_⟩ HMON.out
            rw [HSUCC.out, List.append_assoc, ← List.map_append, List.take_append_drop])
          clear ho ho1 ho2
          generalize os[m] = y2 at *
          obtain ⟨q, t⟩ := y2
          simp only at p1 p2
          have hJ3 : J (opsTo l k ++ (os.take m).map fun o => (k, o)) (wr.alloc (.cells #[.int .i64 q, S t] 69)) := hJ _ _ _ none hJm (World.grownBy_alloc wr _ none) (fun r e => by cases e)
          obtain ⟨fn, tmps, assign, body, hy, hR⟩ := HY.out _ (k, (q, t)) _ hJ3 HPR.out
          have HZ3 := Lib.hid (size_keep hw3)
          have HW3 := Lib.hid hw3
          simp only [encO] at hy
          clear hJ3 hJm hw3
          gi_wp2
          refine hR.mono ?_
          rintro e w4 (⟨rfl, hJ4, hk4⟩ | ⟨rfl, hJx4⟩)
          · have hw4 : ∀ i, i < w0.heap.size → w4.heap[i]? = w0.heap[i]? := fun i hi => (hk4.2 i (.inl hi)).trans ((Below.heap_alloc _ _ _ (by have := HZ3.out; omega)).trans (HW3.out i hi))
            have hz4 : W.heap.size ≤ w4.heap.size := by have := hk4.1; rw [World.size_alloc] at this; omega
            clear hk4
            gi_wp2
            go_roundw
            case rel => exact ⟨m + 1, by omega, by go_num, by rw [← HTK.out]; exact hJ4, hw4, hz4⟩
            case measure => simp [intOf]; omega
          · gi_wp2
            refine bodyPost_ret (results_none rfl _ _ _) rfl ?_
            exact ⟨⟨_, rfl⟩, .inr ⟨_, HPR.out, hJx4⟩⟩
        · have h2' : ¬ (m : Int) < (os.length : Int) := by omega
          rw [List.take_of_length_le (by omega), ← HSUCC.out] at hJm
          gi_wp2
          go_roundw
          case rel => exact ⟨k + 1, by omega, by go_num, hJm, hw3, hz3⟩
          case measure => simp [intOf]; omega
    · have h1' : ¬ (k : Int) < (l.length : Int) := by omega
      have HJ := Lib.hid (show J (opsTo l l.length) wr by rw [show l.length = k by omega]; exact hJk)
      clear hJk
      gi_wp2
      go_end0
      exact ⟨⟨_, rfl⟩, .inl HJ.out⟩
end Go.Proofs.Ythjoaoakadaieaa
