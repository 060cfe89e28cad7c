/- The reference's Build at no items. errors.Is at a fault of fetch, against a number: Go's own text of it, walked (after the guide's toy on errors.Is). The program's sums. -/
import Derived.Test.YtocommjoncchpaaGreatDoorJRKey11
import Derived.Test.YtocommjoncchpaaGreatDoorJNodeBack
import Derived.Test.YtocommjoncchpaaGreatDoorJPlain
import Derived.WalkKit
import Derived.LaidEql
import Derived.Stop.Asserts
import Derived.Lib.IfaceEq
import Derived.RowKitTokens
import Derived.Test.YtocommjoncchpaaGreatDoorJKeyNP
namespace Go.Proofs.YtocommjoncchpaaGreatDoor
open Go.RowKit

abbrev n0D : Nod := ⟨3, [], [], []⟩
abbrev rawD : List UInt8 := [3, 0]
theorem fit0D : FitN n0D := by
  refine .inr (.inr ⟨rfl, rfl, rfl, ?_⟩)
  constructor <;> simp [risesE]
theorem write0D : writeN n0D = rawD := by
  unfold writeN
  rw [if_pos (fitN_iff.2 fit0D)]
  show UInt8.ofNat 3 :: (putV 0 ++ []) = rawD
  rw [putV_small (by omega)]
  rfl
theorem read0D : readN rawD = (n0D, 0) := by
  have h := read_write (n := n0D) fit0D
  rwa [write0D] at h
theorem key0D : keyN n0D = shaF rawD := by
  unfold keyN
  rw [if_pos (fitN_iff.2 fit0D), write0D]

set_option maxHeartbeats 4000000 in
set_option maxRecDepth 100000 in
theorem rput12_walk (lv vp ve : Value) (l : List Snp) (n : Nod) (w : World) (hl : SnpRow w lv l) (hr : NodRow w n vp ve) (hcnt : l.length ≤ 1000000) (hd : n.data.length ≤ 1100000) (hp : n.parts.length ≤ 1100000) (he : n.ents.length ≤ 1100000) (hnl : ∀ e ∈ n.ents, e.1.length ≤ 1100000) :
    Calls Tryz.prog 46 #[lv, NodV n vp ve] w fun e w' => ∃ v', e = .returned (.tuple #[v', S (keyN n)]) ∧ SnpRow w' v' (addO l (keyN n, writeN n)) ∧ Below w.heap.size w w' := by
  have HL := Lib.hid hl
  obtain ⟨la, lc, rfl, -⟩ := hl
  obtain ⟨pa, pc, rfl⟩ := row_slice hr.parts
  obtain ⟨ua, uc, rfl⟩ := row_slice hr.ents
  obtain ⟨w1, hw1, hb1, hz⟩ : ∃ w1, w1 = w.alloc (.cells #[.int .i64 n.kind, S n.data, .slice pa n.parts.length pc, .slice ua n.ents.length uc] 68) ∧ Below w.heap.size w w1 ∧ w1.heap[w.heap.size]? = some (.cells #[.int .i64 n.kind, S n.data, .slice pa n.parts.length pc, .slice ua n.ents.length uc] 68 (0, 0)) :=
    ⟨_, rfl, (Below.refl _ _).alloc (Nat.le_refl _) _, heap_alloc_new _ _⟩
  have CK := rkey11_walk (.slice pa n.parts.length pc) (.slice ua n.ents.length uc) n w1 (hr.below hb1) hd hp he hnl
  have CW := fun W h => rwrite11_walk (.slice pa n.parts.length pc) (.slice ua n.ents.length uc) n W h hd hp he hnl
  have HR1 := Lib.hid (hr.below hb1)
  have HB1 := Lib.hid hb1
  have HZ := Lib.hid hz
  have CA := fun (kn wn : List UInt8) (W : World) h => r12add_walk (.slice la l.length lc) l (kn, wn) W h (by omega)
  generalize keyN n = kn at *
  generalize writeN n = wn at *
  obtain ⟨⟨z0, z1, z2, z3⟩, -, -⟩ := box4 hz
  clear hr hb1 hz
  go_enter Tryz.func46, Tryz.ntmps46
  go_upto_region 1 with fail
  rw [← hw1]
  clear hw1
  go_wp2_with fail
  refine CK.mono ?_
  rintro e w2 ⟨rfl, hb2⟩
  have CW2 := CW w2 (HR1.out.below hb2)
  obtain ⟨⟨y0, y1, y2, y3⟩, -, -⟩ := box4 ((hb2.block _ (heap_lt HZ.out)).trans HZ.out)
  have HB2 := Lib.hid (below_chain HB1.out hb2 HB1.out.size)
  clear CK CW z0 z1 z2 z3 hb2
  go_wp2_with fail
  refine CW2.mono ?_
  rintro e w3 ⟨rfl, hb3⟩
  have HB3 := Lib.hid (below_chain HB2.out hb3 HB2.out.size)
  have CA3 := CA kn wn w3 (HL.out.below HB3.out)
  clear CW2 CA hb3 y0 y1 y2 y3
  go_wp2_with fail
  refine CA3.mono ?_
  rintro e w4 ⟨v4, rfl, hr4, hb4⟩
  have HR4 := Lib.hid hr4
  have HB4 := Lib.hid (below_chain HB3.out hb4 HB3.out.size)
  clear CA3 hr4 hb4
  go_wp2
  go_ret2
  exact ⟨_, rfl, HR4.out, HB4.out⟩

set_option maxHeartbeats 4000000 in
set_option maxRecDepth 100000 in
theorem rbuild0_walk (x y z : Int) (w : World) :
    Calls Tryz.prog 14 #[.agg #[.int .i64 x, .int .i64 y, .int .i64 z], .slice none 0 0] w fun e w' => ∃ v', e = .returned (.tuple #[S (shaF rawD), v']) ∧ SnpRow w' v' [(shaF rawD, rawD)] ∧ Below w.heap.size w w' := by
  have HADD : addO [] (shaF rawD, rawD) = [(shaF rawD, rawD)] := by
    unfold addO
    rw [if_neg (by simp [findR, shaF_len])]
    rfl
  obtain ⟨w1, hw1, HB1, c0, c1, c2⟩ : ∃ w1, w1 = w.alloc (.cells #[.int .i64 x, .int .i64 y, .int .i64 z] 42) ∧ Hid (Below w.heap.size w w1) ∧ w1.cell? ⟨w.heap.size, 0, none⟩ = some (.int .i64 x) ∧ w1.cell? ⟨w.heap.size, 1, none⟩ = some (.int .i64 y) ∧ w1.cell? ⟨w.heap.size, 2, none⟩ = some (.int .i64 z) :=
    ⟨_, rfl, Lib.hid ((Below.refl _ _).alloc (Nat.le_refl _) _), cell_new _ _ _ 0 rfl, cell_new _ _ _ 1 rfl, cell_new _ _ _ 2 rfl⟩
  have CD : Calls Tryz.prog 24 #[.agg #[.int .i64 x, .int .i64 y, .int .i64 z], .slice none 0 0, .slice none 0 0, S [], .int .i64 0] w1 fun e w' => ∃ v', e = .returned (.tuple #[v', S (shaF rawD)]) ∧ SnpRow w' v' [(shaF rawD, rawD)] ∧ Below w1.heap.size w1 w' := by
    obtain ⟨w3, hw3, HB3, hz⟩ : ∃ w3, w3 = (w1.alloc (.cells #[.int .i64 x, .int .i64 y, .int .i64 z] 42)).alloc (.cells #[.int .i64 3, .string ⟨#[]⟩, .slice none 0 0, .slice none 0 0] 68) ∧ Hid (Below w1.heap.size w1 w3) ∧ w3.heap[w1.heap.size + 1]? = some (.cells #[.int .i64 3, .string ⟨#[]⟩, .slice none 0 0, .slice none 0 0] 68 (0, 0)) :=
      ⟨_, rfl, Lib.hid (((Below.refl _ _).alloc (Nat.le_refl _) _).alloc (by simp) _), by rw [show w1.heap.size + 1 = (w1.alloc (.cells #[.int .i64 x, .int .i64 y, .int .i64 z] 42)).heap.size by simp]; exact heap_alloc_new _ _⟩
    obtain ⟨⟨z0, z1, z2, z3⟩, -, -⟩ := box4 hz
    have C := rput12_walk (.slice none 0 0) (.slice none 0 0) (.slice none 0 0) [] n0D w3 (Row.nil _ _) ⟨Row.nil _ _, Row.nil _ _⟩ (by simp) (by simp) (by simp) (by simp) (by simp)
    rw [key0D, write0D, HADD] at C
    clear HADD hz c0 c1 c2 HB1 hw1
    generalize shaF rawD = kk at *
    go_enter Tryz.func24, Tryz.ntmps24
    go_upto_region 2 with fail
    rw [← hw3]
    clear hw3
    go_wp2
    go_loopw [2, 13] (fun v i wr => v = .slice none 0 0 ∧ i = .int .i64 0 ∧ wr = w3) (fun _ _ _ => 0)
    case atStart => exact ⟨rfl, rfl, rfl⟩
    case round =>
      obtain ⟨rfl, rfl, rfl⟩ := hrel
      go_wp2_with fail
      refine C.mono ?_
      rintro e w4 ⟨v4, rfl, hr4, hb4⟩
      have HR4 := Lib.hid hr4
      have HB4 := Lib.hid (below_chain HB3.out hb4 HB3.out.size)
      clear C hr4 hb4
      go_wp2
      go_ret2
      exact ⟨_, rfl, HR4.out, HB4.out⟩
  clear HADD
  generalize shaF rawD = kk at *
  go_enter Tryz.func14, Tryz.ntmps14
  go_upto_region 1 with fail
  rw [← hw1]
  clear hw1
  go_wp2_with fail
  refine CD.mono ?_
  rintro e w4 ⟨v4, rfl, hr4, hb4⟩
  have HR4 := Lib.hid hr4
  have HB4 := Lib.hid (below_chain HB1.out hb4 HB1.out.size)
  clear CD hr4 hb4
  go_wp2
  go_ret2
  exact ⟨_, rfl, HR4.out, HB4.out⟩
end Go.Proofs.YtocommjoncchpaaGreatDoor

namespace Go.Proofs.YtocommjoncchpaaGreatDoor
open Go.RowKit Go.Extern.Stop Go.Stop Go.Extern

theorem isTypeOf (v : Value) (w : World) : (Extern.ReflectliteType.typeOf #[.iface 26 v]).run Tryz.prog w = .ok (.iface 142 (.agg #[.pointer (some ⟨2, 26, none⟩)])) w := by kernel_rfl
/-- What the model says of Comparable. -/
theorem isComparable : ∃ f : Array Value → Sem Value, (∀ args w, (callFunc 189 args).run Tryz.prog w = ((f args).run Tryz.prog w).andThen fun v w' => .ok (Next.value v) w') ∧
    ∀ w, (f #[.agg #[.pointer (some ⟨2, 26, none⟩)]]).run Tryz.prog w = .ok (.bool true) w :=
  ⟨Extern.ReflectliteType.method fun t => do Rtype.noPackHeld "Comparable" t; pure (.bool (← typeInfo t).comparable),
    @run_callFunc_extern Tryz.prog 189 _ _ Tryz.func189 (by kernel_rfl) (by kernel_rfl) (by kernel_rfl) (by kernel_rfl), fun w => by kernel_rfl⟩
theorem isMethodComparable (v : Value) (w : World) : (Go.method 370 142 v "Comparable").run Tryz.prog w = .ok (189, v) w := by kernel_rfl
theorem isComp : (Tryz.prog.info? 26).map (·.comparable) = some true := by kernel_rfl
theorem noIsE (v : Value) (xT : TypeId) (w : World) : (Instr.typeAssert (.iface 26 v) xT 144 true).run Tryz.prog w = .ok (.tuple #[.nilIface, .bool false]) w := run_typeAssert_lacksB Tryz.underlying144 (by kernel_rfl) (by kernel_rfl) v xT w
theorem noUnwrapE (v : Value) (xT : TypeId) (w : World) : (Instr.typeAssert (.iface 26 v) xT 147 true).run Tryz.prog w = .ok (.tuple #[.nilIface, .bool false]) w := run_typeAssert_lacksB Tryz.underlying147 (by kernel_rfl) (by kernel_rfl) v xT w
theorem noUnwrapsE (v : Value) (xT : TypeId) (w : World) : (Instr.typeAssert (.iface 26 v) xT 149 true).run Tryz.prog w = .ok (.tuple #[.nilIface, .bool false]) w := run_typeAssert_lacksB Tryz.underlying149 (by kernel_rfl) (by kernel_rfl) v xT w
theorem noIsW (v : Value) (xT : TypeId) (w : World) : (Instr.typeAssert (.iface 93 v) xT 144 true).run Tryz.prog w = .ok (.tuple #[.nilIface, .bool false]) w := run_typeAssert_lacksB Tryz.underlying144 (by kernel_rfl) (by kernel_rfl) v xT w
theorem hasUnwrapW (v : Value) (xT : TypeId) (w : World) : (Instr.typeAssert (.iface 93 v) xT 147 true).run Tryz.prog w = .ok (.tuple #[.iface 93 v, .bool true]) w := run_typeAssert_hasB Tryz.underlying147 (by kernel_rfl) v xT w
theorem methodUnwrap (v : Value) (w : World) : (Go.method 370 93 v "Unwrap").run Tryz.prog w = .ok (184, v) w := by kernel_rfl

/-- errors.Is(fault, t): whether its number is t. -/
theorem is_fault (b : Nat) (c t : Int) (w : World) (h1 : w.cell? ⟨b, 0, none⟩ = some (.int .i64 c)) :
    Calls Tryz.prog 30 #[.iface 93 (.pointer (some ⟨b, 0, none⟩)), .iface 26 (.int .i64 t)] w fun e w' => e = .returned (.bool (c == t)) ∧ w' = w := by
  have hTO := @run_callFunc_extern Tryz.prog 51 _ Extern.ReflectliteType.typeOf Tryz.func51 (by kernel_rfl) (by kernel_rfl) (by kernel_rfl) (by kernel_rfl)
  obtain ⟨cf, hCO, cT⟩ := isComparable
  have tT := isTypeOf
  have mR := isMethodComparable
  have nE := noIsE
  have uE := noUnwrapE
  have vE := noUnwrapsE
  have nW := noIsW
  have uW := hasUnwrapW
  have mU := methodUnwrap
  have heq := Lib.run_eql_iface_int (P := Tryz.prog) (k := .i64) w c t Tryz.underlying47 isComp Tryz.underlying26
  have hty := run_eql_iface_types (P := Tryz.prog) 93 26 (.pointer (some ⟨b, 0, none⟩)) (.int .i64 t) Tryz.underlying47 (by decide) w
  obtain ⟨q, hq⟩ : ∃ q, (c == t) = q := ⟨_, rfl⟩
  rw [hq] at heq
  rw [hq]
  clear hq
  cases q with
  | true =>
    go_enter Tryz.func30, Tryz.ntmps30
    go_wp2
    refine wp_loop_rounds 2 ?_
    rw [rounds_succ]
    go_wp2
    rw [rounds_succ]
    go_wp2
    go_ret
    exact ⟨rfl, rfl⟩
  | false =>
    go_enter Tryz.func30, Tryz.ntmps30
    go_wp2
    refine wp_loop_rounds 2 ?_
    rw [rounds_succ]
    go_wp2
    rw [rounds_succ]
    go_wp2
    go_ret
    exact ⟨rfl, rfl⟩
end Go.Proofs.YtocommjoncchpaaGreatDoor

namespace Go.Proofs.YtocommjoncchpaaGreatDoor
open Go.RowKit

set_option maxHeartbeats 2000000 in
set_option maxRecDepth 100000 in
theorem rotl_walk (x n : Nat) (w : World) (hx : x < 4294967296) (h0 : 0 < n) (hn : n < 32) :
    Calls Tryz.prog 156 #[.int .u32 x, .int .i64 (-(n : Int))] w fun e w' => e = .returned (.int .u32 (rotN n x : Nat)) ∧ w' = w := by
  have hs : bits BinOp.and IntKind.u64 (IntKind.u64.wrap (-(n : Int))) 31 = 32 - (n : Int) := by
    have e : IntKind.u64.wrap (-(n : Int)) = ((18446744073709551616 - n : Nat) : Int) := by simp only [IntKind.wrap, IntKind.bits, IntKind.signed]; simp; omega
    rw [e, show (31 : Int) = ((31 : Nat) : Int) from rfl, u64_and_nat _ _ (by omega) (by omega)]
    have := Nat.and_two_pow_sub_one_eq_mod (18446744073709551616 - n) 5
    rw [show (2 : Nat) ^ 5 - 1 = 31 from rfl] at this
    rw [this]
    omega
  go_enter Tryz.func156, Tryz.ntmps156
  go_wp2
  go_ret
  exact ⟨congrArg (fun z => Ending.returned (Value.int IntKind.u32 z)) (by rw [show 32 - (32 - n) = n by omega]; exact bits_rot' (by omega) hx), rfl⟩

set_option maxRecDepth 100000 in
theorem down_walk (x n : Nat) (w : World) (hx : x < 4294967296) (h0 : 0 < n) (hn : n < 32) :
    Calls Tryz.prog 151 #[.int .u32 x, .int .i64 n] w fun e w' => e = .returned (.int .u32 (rotN n x : Nat)) ∧ w' = w := by
  have C := rotl_walk x n w hx h0 hn
  go_enter Tryz.func151, Tryz.ntmps151
  go_wp2_with (go_at_call 156; refine (C).mono ?_; rintro e w' ⟨rfl, rfl⟩)
  go_ret
  exact ⟨rfl, rfl⟩

set_option maxHeartbeats 4000000 in
set_option maxRecDepth 100000 in
theorem const_walk (w : World) :
    Calls Tryz.prog 149 #[] w fun e w' => e = .returned (.agg (kSha.map wV).toArray) ∧ Below w.heap.size w w' := by
  go_enter Tryz.func149, Tryz.ntmps149
  go_upto_region 1 with fail
  generalize hw1 : w.alloc _ = w1
  have hz : w1.heap[w.heap.size]? = some (.cells (Array.replicate 64 (.int .u32 0)) 223 (0, 0)) := by
    rw [← hw1]
    exact heap_alloc_new _ _
  have hb : Below w.heap.size w w1 := by
    rw [← hw1]
    exact (Below.refl _ _).alloc (Nat.le_refl _) _
  clear hw1
  apply wp_region_lit
  refine wpList_build rfl 223 _ rfl (by as_aux_lemma => kernel_rfl) ?_
  refine wpList_store_row rfl 223 _ _ rfl w.heap.size (kSha.map wV).toArray rfl (by as_aux_lemma => kernel_rfl) 223 _ hz (by as_aux_lemma => kernel_rfl) rfl (by as_aux_lemma => kernel_rfl) ?_
  apply wpList_nil
  generalize hw2 : w1.setRow _ _ = w2
  have hz2 : w2.heap[w.heap.size]? = some (.cells (kSha.map wV).toArray 223 (0, 0)) := by
    rw [← hw2]
    exact setRow_heap w1 _ _ _ _ _ hz
  have hb2 : Below w.heap.size w w2 := by
    rw [← hw2]
    exact below_setRow hb (Nat.le_refl _) _
  clear hw2
  rename_i hK
  refine hK _ _ ?_
  apply wp_ret
  exact bodyPost_ret (v := .agg (kSha.map wV).toArray) (results_cell_row rfl _ _ w.heap.size 223 _ _ _ (by as_aux_lemma => kernel_rfl) hz2 Tryz.underlying223 rfl (by as_aux_lemma => kernel_rfl)) rfl ⟨rfl, hb2⟩

set_option maxHeartbeats 4000000 in
set_option maxRecDepth 100000 in
theorem first_walk (w : World) :
    Calls Tryz.prog 65 #[] w fun e w' => e = .returned (.agg (h0Sha.words.map wV).toArray) ∧ Below w.heap.size w w' := by
  go_enter Tryz.func65, Tryz.ntmps65
  go_upto_region 1 with fail
  generalize hw1 : w.alloc _ = w1
  have hz : w1.heap[w.heap.size]? = some (.cells (Array.replicate 8 (.int .u32 0)) 123 (0, 0)) := by
    rw [← hw1]
    exact heap_alloc_new _ _
  have hb : Below w.heap.size w w1 := by
    rw [← hw1]
    exact (Below.refl _ _).alloc (Nat.le_refl _) _
  clear hw1
  apply wp_region_lit
  refine wpList_build rfl 123 _ rfl (by as_aux_lemma => kernel_rfl) ?_
  refine wpList_store_row rfl 123 _ _ rfl w.heap.size (h0Sha.words.map wV).toArray rfl (by as_aux_lemma => kernel_rfl) 123 _ hz (by as_aux_lemma => kernel_rfl) rfl (by as_aux_lemma => kernel_rfl) ?_
  apply wpList_nil
  generalize hw2 : w1.setRow _ _ = w2
  have hz2 : w2.heap[w.heap.size]? = some (.cells (h0Sha.words.map wV).toArray 123 (0, 0)) := by
    rw [← hw2]
    exact setRow_heap w1 _ _ _ _ _ hz
  have hb2 : Below w.heap.size w w2 := by
    rw [← hw2]
    exact below_setRow hb (Nat.le_refl _) _
  clear hw2
  rename_i hK
  refine hK _ _ ?_
  apply wp_ret
  exact bodyPost_ret (v := .agg (h0Sha.words.map wV).toArray) (results_cell_row rfl _ _ w.heap.size 123 _ _ _ (by as_aux_lemma => kernel_rfl) hz2 Tryz.underlying123 rfl (by as_aux_lemma => kernel_rfl)) rfl ⟨rfl, hb2⟩
end Go.Proofs.YtocommjoncchpaaGreatDoor
