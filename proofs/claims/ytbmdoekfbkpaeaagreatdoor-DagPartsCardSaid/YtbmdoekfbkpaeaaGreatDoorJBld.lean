/- strings.Builder: copyCheck and WriteByte, at this program. (*strings.Builder).WriteString, at this program. The program's numbers as bytes: Put, PutText. slices.IndexFunc and slices.ContainsFunc, at silo/api.Part; the closure by its contract. slices.IndexFunc and slices.ContainsFunc, at silo/api.Entry; the closure by its contract. -/
import Derived.Test.YtbmdoekfbkpaeaaGreatDoorJR11
import Derived.Test.YtbmdoekfbkpaeaaGreatDoorJPlain
import Derived.Test.YtbmdoekfbkpaeaaGreatDoorShelf
import Derived.Lib.AppendStr
import Derived.Test.YtbmdoekfbkpaeaaGreatDoorJRowG
import Derived.Test.YtbmdoekfbkpaeaaGreatDoorJNodePlain
namespace Go.Proofs.YtbmdoekfbkpaeaaGreatDoor
open Go.RowKit

theorem bldSize : (Tryz.prog.info? 150).map (·.size) = some 2 := by kernel_rfl
theorem bldLies : liesAt Tryz.prog Tryz.prog.depth 150 (2 / Tryz.prog.cellsOf 150) 0 150 1 = true := by kernel_rfl
abbrev IsBld (B b : Nat) (l : List UInt8) (w : World) : Prop := Lib.IsBuilder 150 5 B b (Lib.byteCells l) w

set_option maxHeartbeats 1100000 in
set_option maxRecDepth 100000 in
theorem ccheck_walk (B b : Nat) (bs : List Value) (w : World) (h : Lib.IsBuilder 150 5 B b bs w) :
    Calls Tryz.prog 134 #[.pointer (some ⟨b, 0, none⟩)] w fun e w' => e = .returned (.tuple #[]) ∧ (Lib.BuilderAt 150 5 B b (.pointer (some ⟨b, 0, none⟩)) bs w' ∧ Below B w w') := by
  obtain ⟨j, hj, hjs⟩ := Option.map_eq_some_iff.1 bldSize
  rcases h with h | h
  · have h0 := h.cell0
    have hsh := h.shape
    have hfz := h.frozen0
    have HB := Lib.hid h
    clear h
    go_enter Tryz.func134, Tryz.ntmps134
    go_wp2
    rw [Lib.run_to_unsafe w ⟨b, 0, none⟩ Tryz.underlying148 Tryz.underlying180 hj (by rw [hjs]; decide) hsh (Nat.zero_lt_succ 1)]
    simp only [Result.andThen]
    rw [Oper.upon_value]
    go_wp2
    rw [run_callFunc_extern Tryz.func142 (by kernel_rfl) (by kernel_rfl) (by kernel_rfl) (e := Extern.AbiNoEscape.same) (by kernel_rfl)]
    rw [Lib.run_noEscape]
    simp only [Result.andThen]
    rw [Oper.upon_value]
    go_wp2
    rw [Lib.run_from_unsafe w ⟨b, 0, none⟩ Tryz.underlying180 Tryz.underlying148 hj hsh bldLies]
    simp only [Result.andThen]
    rw [Oper.upon_value]
    go_wp2
    go_end0
    exact ⟨rfl, HB.out.used _, (Below.refl B w).setCell (p := ⟨b, 0, none⟩) HB.out.1 _⟩
  · have h0 := h.cell0
    have HB := Lib.hid h
    clear h
    go_enter Tryz.func134, Tryz.ntmps134
    go_wp2
    rw [Lib.run_neq_ptr_same w _ Tryz.underlying148 hj]
    go_wp2
    go_end0
    exact ⟨rfl, HB.out, Below.refl B _⟩

set_option maxHeartbeats 2000000 in
set_option maxRecDepth 100000 in
theorem wbyte_walk (B b : Nat) (l : List UInt8) (c : UInt8) (cv : Int) (w : World) (hcv : cv = (c.toNat : Int)) (h : IsBld B b l w) (hlen : l.length ≤ 1100000) (hBw : B ≤ w.heap.size) :
    Calls Tryz.prog 135 #[.pointer (some ⟨b, 0, none⟩), .int .u8 cv] w fun e w' => e = .returned .nilIface ∧ (IsBld B b (l ++ [c]) w' ∧ Below B w w') := by
  obtain ⟨i0, hi, hz0, hz1, hz2⟩ := info_parts infoByte
  subst hcv
  have C := ccheck_walk B b _ w h
  have hll : (Lib.byteCells l).length = l.length := by simp [Lib.byteCells]
  have HLL := Lib.hid hll
  have hla : (Lib.byteCells (l ++ [c])) = Lib.byteCells l ++ [.int .u8 (c.toNat : Int)] := by simp [Lib.byteCells]
  have HLA := Lib.hid hla
  have hbl : (Lib.byteCells l).length ≤ 1100000 := by omega
  unfold IsBld
  rw [hla]
  clear h hll hla
  generalize Lib.byteCells l = bs at *
  go_enter Tryz.func135, Tryz.ntmps135
  go_wp2_with fail
  refine C.mono ?_
  rintro e w1 ⟨rfl, h1, hb1⟩
  obtain ⟨hB, v, hbk, hown, hne⟩ := h1
  have c0 : w1.cell? ⟨b, 0, none⟩ = some (.pointer (some ⟨b, 0, none⟩)) := by rw [Lib.cell_of_heap hbk]; rfl
  have c1 : w1.cell? ⟨b, 1, none⟩ = some v := by rw [Lib.cell_of_heap hbk]; rfl
  have hsz1 := hb1.size
  go_wp2_with (at_builtin; refine wpList_append_own _ rfl _ _ 74 rfl B 5 i0 (.int .u8 0) 1 1 Tryz.underlying74 hi hz0 hz1 hz2 rfl (by decide) _ _ _ rfl (hown.alloc _) ⟨w1.heap.size, 0, none⟩ 1 1 [.int .u8 (c.toNat : Int)] rfl rfl (new_cell_at rfl _ _) (by intro u hu; simp at hu; subst hu; rfl) (by unfold maxLen; omega) (by omega) (by simp; omega) ?_)
  intro v' w2 hown' hgrow _
  have hlt : b < w1.heap.size := by
    rcases Nat.lt_or_ge b w1.heap.size with h' | h'
    · exact h'
    · simp [Array.getElem?_eq_none h'] at hbk
  have hb2 : w2.heap[b]? = some (.cells #[.pointer (some ⟨b, 0, none⟩), v] 150 (0, 0)) := by
    rw [hgrow.block b (by simp; omega) (fun e => hne e.symm), Lib.alloc_old w1 _ b hlt]
    exact hbk
  have d0 : w2.cell? ⟨b, 0, none⟩ = some (.pointer (some ⟨b, 0, none⟩)) := by rw [Lib.cell_of_heap hb2]; rfl
  have d1 : w2.cell? ⟨b, 1, none⟩ = some v := by rw [Lib.cell_of_heap hb2]; rfl
  have f1 : w2.frozen? ⟨b, 1, none⟩ = false := Lib.frozen_of_heap hb2 1
  obtain ⟨g, cap, rfl⟩ : ∃ g cap, v' = .slice (some ⟨g, 0, none⟩) (bs.length + 1) cap := by
    rcases hown'.2 with ⟨_, h0⟩ | ⟨g, cap, cur, hv, _⟩
    · omega
    · exact ⟨g, cap, hv⟩
  go_wp2
  go_ret
  refine ⟨rfl, .inr ?_, ?_⟩
  · exact Lib.BuilderAt.put (T := 150) (e := 5) hB hb2 (bs' := bs ++ [.int .u8 (c.toNat : Int)]) (by simpa using hown') (by decide)
  · exact ((hb1.alloc (by omega) _).grown hgrow (by simp; omega) (fun k hk => (hown.lt k hk).1)).setCell (p := ⟨b, 1, none⟩) hB _

theorem bstring_walk (B b : Nat) (l : List UInt8) (w : World) (h : IsBld B b l w) (hBw : B ≤ w.heap.size) :
    Calls Tryz.prog 119 #[.pointer (some ⟨b, 0, none⟩)] w fun e w' => e = .returned (S l) ∧ Below B w w' := Tryz.Builder_String_any B b l w h hBw
end Go.Proofs.YtbmdoekfbkpaeaaGreatDoor

namespace Go.Proofs.YtbmdoekfbkpaeaaGreatDoor
open Go.RowKit

theorem strCells_bytes (t : List UInt8) : Lib.strCells (⟨t.toArray⟩ : ByteArray) = Lib.byteCells t := by
  simp [Lib.strCells, Lib.byteCells]

set_option maxHeartbeats 2000000 in
set_option maxRecDepth 100000 in
theorem wstr_walk (B b : Nat) (l t : List UInt8) (w : World) (h : IsBld B b l w) (hlen : l.length ≤ 1100000) (htl : t.length ≤ 1100000) (ht0 : 0 < t.length) (hBw : B ≤ w.heap.size) :
    Calls Tryz.prog 117 #[.pointer (some ⟨b, 0, none⟩), S t] w fun e w' => (∃ q, e = .returned (.tuple #[.int .i64 q, .nilIface])) ∧ (IsBld B b (l ++ t) w' ∧ Below B w w') := by
  obtain ⟨i0, hi, hz0, hz1, hz2⟩ := info_parts infoByte
  have C := ccheck_walk B b _ w h
  have hll : (Lib.byteCells l).length = l.length := by simp [Lib.byteCells]
  have hla : (Lib.byteCells (l ++ t)) = Lib.byteCells l ++ Lib.strCells (⟨t.toArray⟩ : ByteArray) := by rw [strCells_bytes]; simp [Lib.byteCells]
  have hbl : (Lib.byteCells l).length ≤ 1100000 := by omega
  have hts : (⟨t.toArray⟩ : ByteArray).size = t.length := by simp [ByteArray.size]
  have HTS := Lib.hid hts
  have HT0 := Lib.hid ht0
  unfold IsBld
  rw [hla]
  clear h hll hla hts ht0
  generalize Lib.byteCells l = bs at *
  go_enter Tryz.func117, Tryz.ntmps117
  go_wp2_with fail
  refine C.mono ?_
  rintro e w1 ⟨rfl, h1, hb1⟩
  obtain ⟨hB, v, hbk, hown, hne⟩ := h1
  have c0 : w1.cell? ⟨b, 0, none⟩ = some (.pointer (some ⟨b, 0, none⟩)) := by rw [Lib.cell_of_heap hbk]; rfl
  have c1 : w1.cell? ⟨b, 1, none⟩ = some v := by rw [Lib.cell_of_heap hbk]; rfl
  have hsz1 := hb1.size
  go_wp2_with (at_builtin; refine Lib.wpList_append_own_string _ rfl _ _ 74 9 rfl B 5 i0 Tryz.underlying74 Tryz.underlying9 hi hz0 hz1 hz2 _ _ _ rfl hown (⟨t.toArray⟩ : ByteArray) rfl (by unfold maxLen; have := HTS.out; omega) (by have := HTS.out; omega) (by omega) ?_)
  intro v' w2 hown' hgrow _
  have hlt : b < w1.heap.size := by
    rcases Nat.lt_or_ge b w1.heap.size with h' | h'
    · exact h'
    · simp [Array.getElem?_eq_none h'] at hbk
  have hb2 : w2.heap[b]? = some (.cells #[.pointer (some ⟨b, 0, none⟩), v] 150 (0, 0)) := by
    rw [hgrow.block b hlt (fun e => hne e.symm)]
    exact hbk
  have d0 : w2.cell? ⟨b, 0, none⟩ = some (.pointer (some ⟨b, 0, none⟩)) := by rw [Lib.cell_of_heap hb2]; rfl
  have d1 : w2.cell? ⟨b, 1, none⟩ = some v := by rw [Lib.cell_of_heap hb2]; rfl
  have f1 : w2.frozen? ⟨b, 1, none⟩ = false := Lib.frozen_of_heap hb2 1
  obtain ⟨g, cap, rfl⟩ : ∃ g cap, v' = .slice (some ⟨g, 0, none⟩) (bs.length + t.length) cap := by
    rcases hown'.2 with ⟨_, h0⟩ | ⟨g, cap, cur, hv, _⟩
    · have := HTS.out; have := HT0.out; omega
    · exact ⟨g, cap, hv⟩
  have HOWN := Lib.hid hown'
  have HGR := Lib.hid hgrow
  have HOW := Lib.hid hown
  clear hown' hgrow hown
  have HL2 := Lib.hid (show (bs ++ Lib.strCells (⟨t.toArray⟩ : ByteArray)).length = bs.length + t.length by rw [strCells_bytes]; simp [Lib.byteCells])
  go_wp2
  go_ret2
  refine ⟨⟨_, rfl⟩, .inr ?_, ?_⟩
  · rw [← HL2.out]
    exact Lib.BuilderAt.put (T := 150) (e := 5) hB hb2 (bs' := bs ++ Lib.strCells (⟨t.toArray⟩ : ByteArray)) (by rw [HL2.out]; exact HOWN.out) (by decide)
  · exact (hb1.grown HGR.out (by omega) (fun k hk => (HOW.out.lt k hk).1)).setCell (p := ⟨b, 1, none⟩) hB _
end Go.Proofs.YtbmdoekfbkpaeaaGreatDoor

namespace Go.Proofs.YtbmdoekfbkpaeaaGreatDoor
open Go.RowKit

theorem or128' : ∀ x : Fin 256, bits BinOp.or IntKind.u8 ((x.val : Nat) : Int) 128 = ((x.val % 128 + 128 : Nat) : Int) := by decide +kernel
theorem or128 (k : Nat) : bits BinOp.or IntKind.u8 ((k : Int) % 256) 128 = ((k % 128 + 128 : Nat) : Int) := by
  have := or128' ⟨k % 256, Nat.mod_lt _ (by decide)⟩
  simp only [] at this
  rw [show ((k : Int) % 256) = ((k % 256 : Nat) : Int) by omega, this]
  omega

set_option maxHeartbeats 1100000 in
set_option maxRecDepth 100000 in
theorem pput_walk (n0 : Nat) (w : World) (hn0 : n0 < 2 ^ 64) :
    Calls Tryz.prog 118 #[.int .u64 n0] w fun e w' => e = .returned (S (putV n0)) ∧ Below w.heap.size w w' := by
  have hfr := Lib.fresh_isBuilder 150 5 w
  go_enter Tryz.func118, Tryz.ntmps118
  go_wp2
  go_loopw [0] (fun n wr => ∃ (k : Nat) (out : List UInt8), n = .int .u64 k ∧ out.length ≤ 9 ∧ k < 2 ^ (64 - 7 * out.length) ∧ putV n0 = out ++ putV k ∧ IsBld w.heap.size w.heap.size out wr ∧ Below w.heap.size w wr) (fun n _ => (intOf n).toNat)
  case atStart => exact ⟨n0, [], rfl, by simp, by simpa using hn0, rfl, hfr, (Below.refl _ _).alloc (Nat.le_refl _) _⟩
  case round =>
    obtain ⟨k, out, rfl, hol, hk, hp, hbld, hB⟩ := hrel
    have HP := Lib.hid hp
    have hsz := hB.size
    have hk64 := putV_word hol hk
    have HK := Lib.hid hk
    clear hk
    by_cases h1 : k < 128
    · have h1' : ¬ (127 : Int) < (k : Int) := by omega
      have HL := Lib.hid (putV_last hp h1)
      clear hp
      go_wp2_with fail
      refine (wbyte_walk w.heap.size w.heap.size out (UInt8.ofNat k) k wr (by simp; omega) hbld (by omega) hsz).mono ?_
      rintro e w1 ⟨rfl, hb1, hbb⟩
      have hB1 := hB.trans hbb
      go_wp2_with fail
      refine (bstring_walk w.heap.size w.heap.size _ w1 hb1 hB1.size).mono ?_
      rintro e w2 ⟨rfl, hb2⟩
      go_wp2
      go_ret
      exact ⟨by rw [HL.out]; rfl, hB1.trans hb2⟩
    · have h1' : (127 : Int) < (k : Int) := by omega
      have HL := Lib.hid (putV_step hp h1)
      obtain ⟨hr1, hr2⟩ := putV_room hol HK.out (by omega)
      clear hp
      go_wp2_with fail
      refine (wbyte_walk w.heap.size w.heap.size out (UInt8.ofNat (k % 128 + 128)) _ wr (by rw [or128]; simp; omega) hbld (by omega) hsz).mono ?_
      rintro e w1 ⟨rfl, hb1, hbb⟩
      have hB1 := hB.trans hbb
      go_wp2
      go_roundw
      case rel => exact ⟨k / 128, _, by go_num, by simp; omega, by simpa using hr2, HL.out, hb1, hB1⟩
      case measure => simp [intOf]; omega

set_option maxHeartbeats 1100000 in
set_option maxRecDepth 100000 in
theorem pputtext_walk (l : List UInt8) (w : World) (hl : l.length ≤ 1100000) :
    Calls Tryz.prog 120 #[S l] w fun e w' => e = .returned (S (putText l)) ∧ Below w.heap.size w w' := by
  have HT := Lib.hid (show putText l = if 65536 < l.length then [] else putV l.length ++ l from rfl)
  generalize putText l = tt at *
  by_cases h : 65536 < l.length
  · have h' : (65536 : Int) < (l.length : Int) := by omega
    have HT1 := Lib.hid (HT.out.trans (if_pos h))
    go_enter Tryz.func120, Tryz.ntmps120
    go_wp2
    go_ret
    exact ⟨by rw [HT1.out]; rfl, Below.refl _ _⟩
  · have h' : ¬ (65536 : Int) < (l.length : Int) := by omega
    have HT1 := Lib.hid (HT.out.trans (if_neg h))
    go_enter Tryz.func120, Tryz.ntmps120
    go_wp2_with fail
    refine (pput_walk l.length w (by omega)).mono ?_
    rintro e w1 ⟨rfl, hb⟩
    have hpl := putV_len (n := l.length) (by omega)
    have hns : ¬ 9223372036854775807 < (putV l.length).length + l.length := by omega
    go_wp2
    go_ret
    exact ⟨by rw [HT1.out, ← S_app]; rfl, hb⟩
end Go.Proofs.YtbmdoekfbkpaeaaGreatDoor

namespace Go.Proofs.YtbmdoekfbkpaeaaGreatDoor
open Go.RowKit

set_option maxHeartbeats 2000000 in
set_option maxRecDepth 100000 in
theorem idxPrt_walk (g0 : Nat) (caps : Array Value) (p : Prt → Bool) (a : Option Addr) (c : Nat) (l : List Prt) (w : World) (hr : Row prtC w (.slice a l.length c) l) (hcnt : l.length ≤ 1100000)
    (hen : ∀ args w, (callFunc g0 args).run Tryz.prog w = .ok (.enter g0 args) w)
    (hp : ∀ x ∈ l, ∀ w', Below w.heap.size w w' → Calls Tryz.prog g0 (#[PrtV x] ++ caps) w' fun e w'' => e = .returned (.bool (p x)) ∧ Below w'.heap.size w' w'') :
    Calls Tryz.prog 128 #[.slice a l.length c, .func (.func g0) #[] caps] w fun e w' => e = .returned (.int .i64 (idxP p l)) ∧ Below w.heap.size w w' := by
  obtain ⟨a', c', hv, hc, hm, hx⟩ := hr
  cases hv
  have HX := Lib.hid hx
  have HP := Lib.hid hp
  clear hx hp
  go_enter Tryz.func128, Tryz.ntmps128
  go_wp2
  go_loopw [8] (fun i wr => ∃ k : Nat, k ≤ l.length ∧ i = .int .i64 k ∧ (∀ x ∈ l.take k, p x = false) ∧ Below w.heap.size w wr) (fun i _ => l.length - (intOf i).toNat)
  case atStart => exact ⟨0, Nat.zero_le _, rfl, by simp, Below.refl _ _⟩
  case round =>
    obtain ⟨k, hk, rfl, hall, hB⟩ := hrel
    have HALL := Lib.hid hall
    have HB := Lib.hid hB
    clear hall
    by_cases h1 : k < l.length
    · have hx := HX.out
      rcases hx with hx | ⟨b, o, rfl, hx⟩
      · exfalso; rw [hx] at h1; simp at h1
      have hfacts := prt_cells hx h1
      have HE := Lib.hid (fun h => idxP_at h1 HALL.out h)
      have HN := Lib.hid (fun h => none_step h1 HALL.out h)
      have CL := fun w' h => HP.out l[k] (List.getElem_mem h1) w' h
      clear hx
      generalize l[k] = y at *
      obtain ⟨qb, hqb⟩ : ∃ qb, p y = qb := ⟨_, rfl⟩
      rw [hqb] at CL HE HN
      clear hqb
      obtain ⟨key, sz⟩ := y
      obtain ⟨hx1, hx2⟩ := hfacts
      have hc1 := cell_below hB hx1; have hc2 := cell_below hB hx2; clear hx1 hx2
      have h1' : (k : Int) < (l.length : Int) := by omega
      have CL2 := CL wr hB
      clear hB CL
      cases qb with
      | true =>
        have HF := Lib.hid (HE.out rfl)
        clear HE HN
        go_wp2_with (refine CL2.mono ?_; rintro e w1 ⟨rfl, hb1⟩)
        go_ret
        exact ⟨by rw [HF.out]; rfl, below_chain HB.out hb1 HB.out.size⟩
      | false =>
        have HF := Lib.hid (HN.out rfl)
        clear HE HN
        go_wp2_with (refine CL2.mono ?_; rintro e w1 ⟨rfl, hb1⟩)
        go_roundw
        case rel => exact ⟨k + 1, by omega, by go_num, HF.out, below_chain HB.out hb1 HB.out.size⟩
        case measure => simp [intOf]; omega
    · have h1' : ¬ (k : Int) < (l.length : Int) := by omega
      have HF := Lib.hid (show idxP p l = -1 from idxP_none (by have := HALL.out; rwa [List.take_of_length_le (by omega)] at this))
      go_wp2
      go_ret
      exact ⟨by rw [HF.out]; rfl, HB.out⟩

set_option maxHeartbeats 1100000 in
/-- slices.ContainsFunc: whether one is. -/
theorem hasPrt_walk (g0 : Nat) (caps : Array Value) (p : Prt → Bool) (v : Value) (l : List Prt) (w : World) (hr : Row prtC w v l) (hcnt : l.length ≤ 1100000)
    (hen : ∀ args w, (callFunc g0 args).run Tryz.prog w = .ok (.enter g0 args) w)
    (hp : ∀ x ∈ l, ∀ w', Below w.heap.size w w' → Calls Tryz.prog g0 (#[PrtV x] ++ caps) w' fun e w'' => e = .returned (.bool (p x)) ∧ Below w'.heap.size w' w'') :
    Calls Tryz.prog 110 #[v, .func (.func g0) #[] caps] w fun e w' => e = .returned (.bool (l.any p)) ∧ Below w.heap.size w w' := by
  obtain ⟨a, c, rfl, hc, hm, hx⟩ := hr
  have CI := idxPrt_walk g0 caps p a c l w ⟨a, c, rfl, hc, hm, hx⟩ hcnt hen hp
  clear hx hp hen
  rcases idxP_cases p l with ⟨e1, hall⟩ | ⟨k0, hk0, e1, hall, hpk⟩
  · have HF := Lib.hid (show l.any p = false by rw [List.any_eq_false]; intro x hx; rw [hall x hx]; simp)
    rw [e1] at CI
    clear hall e1
    go_enter Tryz.func110, Tryz.ntmps110
    go_wp2_with (go_at_call 128; refine (CI).mono ?_; rintro e w1 ⟨rfl, hb1⟩)
    go_ret
    exact ⟨by rw [HF.out]; rfl, hb1⟩
  · have HF := Lib.hid (show l.any p = true by rw [List.any_eq_true]; exact ⟨_, List.getElem_mem hk0, hpk⟩)
    rw [e1] at CI
    have hk : (0 : Int) ≤ (k0 : Int) := by omega
    clear hall e1 hpk
    go_enter Tryz.func110, Tryz.ntmps110
    go_wp2_with (go_at_call 128; refine (CI).mono ?_; rintro e w1 ⟨rfl, hb1⟩)
    go_ret
    exact ⟨by rw [HF.out]; rfl, hb1⟩
end Go.Proofs.YtbmdoekfbkpaeaaGreatDoor

namespace Go.Proofs.YtbmdoekfbkpaeaaGreatDoor
open Go.RowKit

set_option maxHeartbeats 2000000 in
set_option maxRecDepth 100000 in
theorem idxEnt_walk (g0 : Nat) (caps : Array Value) (p : Ent → Bool) (a : Option Addr) (c : Nat) (l : List Ent) (w : World) (hr : Row entC w (.slice a l.length c) l) (hcnt : l.length ≤ 1100000)
    (hen : ∀ args w, (callFunc g0 args).run Tryz.prog w = .ok (.enter g0 args) w)
    (hp : ∀ x ∈ l, ∀ w', Below w.heap.size w w' → Calls Tryz.prog g0 (#[EntV x] ++ caps) w' fun e w'' => e = .returned (.bool (p x)) ∧ Below w'.heap.size w' w'') :
    Calls Tryz.prog 129 #[.slice a l.length c, .func (.func g0) #[] caps] w fun e w' => e = .returned (.int .i64 (idxP p l)) ∧ Below w.heap.size w w' := by
  obtain ⟨a', c', hv, hc, hm, hx⟩ := hr
  cases hv
  have HX := Lib.hid hx
  have HP := Lib.hid hp
  clear hx hp
  go_enter Tryz.func129, Tryz.ntmps129
  go_wp2
  go_loopw [8] (fun i wr => ∃ k : Nat, k ≤ l.length ∧ i = .int .i64 k ∧ (∀ x ∈ l.take k, p x = false) ∧ Below w.heap.size w wr) (fun i _ => l.length - (intOf i).toNat)
  case atStart => exact ⟨0, Nat.zero_le _, rfl, by simp, Below.refl _ _⟩
  case round =>
    obtain ⟨k, hk, rfl, hall, hB⟩ := hrel
    have HALL := Lib.hid hall
    have HB := Lib.hid hB
    clear hall
    by_cases h1 : k < l.length
    · have hx := HX.out
      rcases hx with hx | ⟨b, o, rfl, hx⟩
      · exfalso; rw [hx] at h1; simp at h1
      have hfacts := ent_cells hx h1
      have HE := Lib.hid (fun h => idxP_at h1 HALL.out h)
      have HN := Lib.hid (fun h => none_step h1 HALL.out h)
      have CL := fun w' h => HP.out l[k] (List.getElem_mem h1) w' h
      clear hx
      generalize l[k] = y at *
      obtain ⟨qb, hqb⟩ : ∃ qb, p y = qb := ⟨_, rfl⟩
      rw [hqb] at CL HE HN
      clear hqb
      obtain ⟨nm, kd, ex, key⟩ := y
      obtain ⟨hx1, hx2, hx3, hx4⟩ := hfacts
      have hc1 := cell_below hB hx1; have hc2 := cell_below hB hx2; have hc3 := cell_below hB hx3; have hc4 := cell_below hB hx4; clear hx1 hx2 hx3 hx4
      have h1' : (k : Int) < (l.length : Int) := by omega
      have CL2 := CL wr hB
      clear hB CL
      cases qb with
      | true =>
        have HF := Lib.hid (HE.out rfl)
        clear HE HN
        go_wp2_with (refine CL2.mono ?_; rintro e w1 ⟨rfl, hb1⟩)
        go_ret
        exact ⟨by rw [HF.out]; rfl, below_chain HB.out hb1 HB.out.size⟩
      | false =>
        have HF := Lib.hid (HN.out rfl)
        clear HE HN
        go_wp2_with (refine CL2.mono ?_; rintro e w1 ⟨rfl, hb1⟩)
        go_roundw
        case rel => exact ⟨k + 1, by omega, by go_num, HF.out, below_chain HB.out hb1 HB.out.size⟩
        case measure => simp [intOf]; omega
    · have h1' : ¬ (k : Int) < (l.length : Int) := by omega
      have HF := Lib.hid (show idxP p l = -1 from idxP_none (by have := HALL.out; rwa [List.take_of_length_le (by omega)] at this))
      go_wp2
      go_ret
      exact ⟨by rw [HF.out]; rfl, HB.out⟩

set_option maxHeartbeats 1100000 in
/-- slices.ContainsFunc: whether one is. -/
theorem hasEnt_walk (g0 : Nat) (caps : Array Value) (p : Ent → Bool) (v : Value) (l : List Ent) (w : World) (hr : Row entC w v l) (hcnt : l.length ≤ 1100000)
    (hen : ∀ args w, (callFunc g0 args).run Tryz.prog w = .ok (.enter g0 args) w)
    (hp : ∀ x ∈ l, ∀ w', Below w.heap.size w w' → Calls Tryz.prog g0 (#[EntV x] ++ caps) w' fun e w'' => e = .returned (.bool (p x)) ∧ Below w'.heap.size w' w'') :
    Calls Tryz.prog 113 #[v, .func (.func g0) #[] caps] w fun e w' => e = .returned (.bool (l.any p)) ∧ Below w.heap.size w w' := by
  obtain ⟨a, c, rfl, hc, hm, hx⟩ := hr
  have CI := idxEnt_walk g0 caps p a c l w ⟨a, c, rfl, hc, hm, hx⟩ hcnt hen hp
  clear hx hp hen
  rcases idxP_cases p l with ⟨e1, hall⟩ | ⟨k0, hk0, e1, hall, hpk⟩
  · have HF := Lib.hid (show l.any p = false by rw [List.any_eq_false]; intro x hx; rw [hall x hx]; simp)
    rw [e1] at CI
    clear hall e1
    go_enter Tryz.func113, Tryz.ntmps113
    go_wp2_with (go_at_call 129; refine (CI).mono ?_; rintro e w1 ⟨rfl, hb1⟩)
    go_ret
    exact ⟨by rw [HF.out]; rfl, hb1⟩
  · have HF := Lib.hid (show l.any p = true by rw [List.any_eq_true]; exact ⟨_, List.getElem_mem hk0, hpk⟩)
    rw [e1] at CI
    have hk : (0 : Int) ≤ (k0 : Int) := by omega
    clear hall e1 hpk
    go_enter Tryz.func113, Tryz.ntmps113
    go_wp2_with (go_at_call 129; refine (CI).mono ?_; rintro e w1 ⟨rfl, hb1⟩)
    go_ret
    exact ⟨by rw [HF.out]; rfl, hb1⟩
end Go.Proofs.YtbmdoekfbkpaeaaGreatDoor
