/- The reference's lay: bytes on a text. -/
import Derived.Test.YthjoaoakadaieaaDiskB
import Derived.Test.YthjoaoakadaieaaLater
import Derived.Laws.MakeOwn
namespace Go.Proofs.Ythjoaoakadaieaa
open Go.RowKit

theorem make_zeros (w : World) (n : Int) (m : Nat) (hn : n = m) (hm : m ≤ 1000000) : ∃ w1, (Instr.makeSlice 101 (.int .i64 n) (.int .i64 n)).run Try.prog w = .ok (.slice (some ⟨w.heap.size, 0, none⟩) m m) w1 ∧ Below w.heap.size w w1 ∧
    (convert 101 9 (.slice (some ⟨w.heap.size, 0, none⟩) m m)).run Try.prog w1 = .ok (S (zerosL m)) w1 := by
  subst hn
  obtain ⟨i0, hi, hz0, hz1, hz2⟩ := info_parts infoByte
  have hr := run_make w 101 5 i0 (.int .u8 0) Try.underlying101 hi hz0 .i64 .i64 m m (by omega) (by omega) (by rw [hz2]; omega) (by omega)
  rw [hz1, Int.toNat_natCast, Nat.mul_one] at hr
  refine ⟨_, hr, (Below.refl _ _).alloc (Nat.le_refl _) _, ?_⟩
  have hl : (zerosL m).length = m := zerosL_len m
  have key := run_convert_bytes_back (w.alloc (.cells (madeCells (Value.int IntKind.u8 0).cells m) 5)) 101 9 5 ⟨w.heap.size, 0, none⟩ m (zerosL m) Try.underlying101 Try.underlying5 Try.underlying9 ?_
  · rwa [hl] at key
  intro j hj
  rw [hl] at hj
  have e : ((⟨w.heap.size, 0, none⟩ : Addr).add j) = ⟨w.heap.size, j, none⟩ := by by_cases h0 : j = 0 <;> simp [Addr.add, h0]
  rw [e]
  refine cell_new w _ _ _ ?_
  simp [madeCells, zerosL, hj, Value.cells, Nat.mod_one]

set_option maxHeartbeats 2000000 in
set_option maxRecDepth 100000 in
theorem rlay_walk (s t : List UInt8) (k : Nat) (w : World) (hs : s.length ≤ 1000000) (ht : t.length ≤ 1000000) (hk : k ≤ 1000000) :
    Calls Try.prog 43 #[S s, .int .i64 k, S t] w fun e w' => e = .returned (S (layD s k t)) ∧ Below w.heap.size w w' := by
  by_cases h1 : s.length < k
  · have HL := Lib.hid (layD_pad (t := t) h1)
    have h1' : (s.length : Int) < (k : Int) := by omega
    have h2 : ¬ 9223372036854775807 < s.length + (zerosL (k - s.length)).length := by rw [zerosL_len]; omega
    obtain ⟨z, hz⟩ : ∃ z, z = zerosL (k - s.length) := ⟨_, rfl⟩
    rw [← hz] at HL h2
    have hzl : z.length = k - s.length := by rw [hz, zerosL_len]
    obtain ⟨w1, hmk, hb1, hbk⟩ := make_zeros w ((k : Int) - (s.length : Int)) (k - s.length) (by omega) (by omega)
    rw [← hz] at hbk
    have h3 : k ≤ s.length + z.length := by omega
    have h4 : s.length + z.length ≤ k + t.length := by omega
    have h5 : ¬ 9223372036854775807 < k + t.length := by omega
    clear hz hzl
    go_enter Try.func43, Try.ntmps43
    go_wp2
    go_ret
    exact ⟨by rw [← HL.out, ← cutL_head]; exact congrArg (fun x => Ending.returned (Value.string x)) (by rw [ba_cat, ba_cut, ba_cat]), hb1⟩
  · have h1' : ¬ (s.length : Int) < (k : Int) := by omega
    by_cases h2 : s.length ≤ k + t.length
    · have HL := Lib.hid (layD_end h2 (by omega))
      have h2' : (s.length : Int) ≤ (k : Int) + (t.length : Int) := by omega
      have h3 : (k : Int) ≤ (s.length : Int) := by omega
      have h4 : ¬ 9223372036854775807 < k + t.length := by omega
      go_enter Try.func43, Try.ntmps43
      go_wp2
      go_ret
      exact ⟨by rw [← HL.out, ← cutL_head]; exact congrArg (fun x => Ending.returned (Value.string x)) (by rw [ba_cut, ba_cat]), Below.refl _ _⟩
    · have HL := Lib.hid (layD_in (s := s) (t := t) (k := k) (by omega))
      have h2' : ¬ (s.length : Int) ≤ (k : Int) + (t.length : Int) := by omega
      have h3 : (k : Int) ≤ (s.length : Int) := by omega
      have h4 : ¬ 9223372036854775807 < k + t.length := by omega
      go_enter Try.func43, Try.ntmps43
      go_wp2
      go_quiet (fail)
      go_wp2
      go_ret
      exact ⟨by rw [← HL.out, ← cutL_head, ← cutL_tail s (k + t.length) s.length (Nat.le_refl _), ← List.append_assoc]; exact congrArg (fun x => Ending.returned (Value.string x)) (by rw [ba_cut, ba_cut, ba_cat, ba_cat]), belowN (Below.refl _ _) _⟩

theorem rlayo_walk (s : List UInt8) (o : Opn) (w : World) (hs : s.length ≤ 262144) (ho : badO o = false) :
    Calls Try.prog 43 #[S s, .int .i64 o.1, S o.2] w fun e w' => e = .returned (S (layO s o)) ∧ Below w.heap.size w w' := by
  obtain ⟨h1, h2, _, h3⟩ := (badO_iff o).1 ho
  obtain ⟨p, q⟩ := o
  simp only at h1 h2 h3
  obtain ⟨k, rfl⟩ : ∃ k : Nat, p = k := ⟨p.toNat, by omega⟩
  exact rlay_walk s q k w (by omega) (by omega) (by omega)

set_option maxHeartbeats 2000000 in
set_option maxRecDepth 100000 in
theorem rseen_walk (x : DF) (w : World) (hr : OpRow w x.ov x.ops) (hb : badF x.lo = false) :
    Calls Try.prog 62 #[DFV x] w fun e w' => e = .returned (S (seenL x.data x.ops)) ∧ Below w.heap.size w w' := by
  obtain ⟨nm, dt, ov, os⟩ := x
  obtain ⟨_, hol, hdl, hall⟩ := (badF_iff _).1 hb
  simp only [DF.lo] at hr hol hdl hall
  obtain ⟨a, c, rfl, hc, hm, hx⟩ := hr
  have HX := Lib.hid hx
  have HALL := Lib.hid hall
  have HLEN := Lib.hid (fun (k : Nat) => seenL_len (ops := os.take k) (s := dt) hdl (fun o ho => hall o (List.mem_of_mem_take ho)))
  clear hx hall hb
  obtain ⟨w0, hw0⟩ : ∃ w0, w0 = w.alloc (.cells #[S nm, S dt, .slice a os.length c] 50) := ⟨_, rfl⟩
  have hb0 : Below w.heap.size w w0 := by rw [hw0]; exact (Below.refl _ _).alloc (Nat.le_refl _) _
  have hd1 : w0.cell? ⟨w.heap.size, 1, none⟩ = some (S dt) := by rw [hw0]; exact cell_new w _ _ 1 rfl
  have hd2 : w0.cell? ⟨w.heap.size, 2, none⟩ = some (.slice a os.length c) := by rw [hw0]; exact cell_new w _ _ 2 rfl
  go_enter Try.func62, Try.ntmps62
  go_wp2_with fail
  rw [← hw0]
  clear hw0
  go_wp2
  go_loopw [3, 4] (fun s i wr => ∃ k : Nat, k ≤ os.length ∧ i = .int .i64 k ∧ s = S (seenL dt (os.take k)) ∧ Below w0.heap.size w0 wr) (fun _ i _ => os.length - (intOf i).toNat)
  case atStart => exact ⟨0, Nat.zero_le _, rfl, rfl, Below.refl _ _⟩
  case round =>
    obtain ⟨k, hk, rfl, rfl, hB⟩ := hrel
    have hd2w := cell_below hB hd2
    have HB := Lib.hid hB
    by_cases h1 : k < os.length
    · have hx := HX.out
      rcases hx with hx | ⟨b, o, rfl, hx⟩
      · exfalso; rw [hx] at h1; simp at h1
      obtain ⟨hx1, hx2⟩ := op_cells hx h1
      have hc1 := LaterOf.cell (cell_below hB (cell_below hb0 hx1))
      have hc2 := LaterOf.cell (cell_below hB (cell_below hb0 hx2))
      have hcd := LaterOf.cell hd2w
      have hsl := HLEN.out k
      have HS := Lib.hid (seenL_step (s := dt) h1)
      have hbo := HALL.out os[k] (by simp)
      clear hx hx1 hx2 hB
      generalize seenL dt (os.take k) = sk at *
      have CL := fun w => rlayo_walk sk os[k] w hsl hbo
      generalize layO sk os[k] = sn at *
      generalize os[k] = y at *
      obtain ⟨p, q⟩ := y
      simp only at hc1 hc2 CL
      have h1' : (k : Int) < (os.length : Int) := by omega
      go_wp2
      (refine wp_region_later (by kernel_rfl) (by kernel_rfl) ?_; (repeat (go_big_quiet_step ((go_at_call 43; exact LaterOf.call _ (CL _))))); refine wpQuiet_nil ?_; intro _ hw1; obtain ⟨lw, hw2⟩ := hw1; subst hw2)
      go_wp2
      go_roundw
      case rel => exact ⟨k + 1, by omega, by go_num, by rw [HS.out], below_chain HB.out lw.below HB.out.size⟩
      case measure => simp [intOf]; omega
    · have h1' : ¬ (k : Int) < (os.length : Int) := by omega
      rw [List.take_of_length_le (by omega)]
      go_wp2
      go_ret
      exact ⟨rfl, below_chain hb0 hB hb0.size⟩
end Go.Proofs.Ythjoaoakadaieaa
