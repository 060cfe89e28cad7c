/- errors.As at the reader's error: Go's own text of it, walked at the two ways that it is met (after the guide's toy on errors.As). The program's node of bytes. Arrays of words and of bytes in memory. -/
import Derived.Test.YtkejdbidomlonaaGreatDoorJPTText
import Derived.WalkKit
import Derived.LaidEql
import Derived.Stop.Asserts
import Derived.RowKitTokens
import Derived.Test.YtkejdbidomlonaaGreatDoorPNode11
import Derived.Test.YtkejdbidomlonaaGreatDoorJR11c
import Derived.Test.YtkejdbidomlonaaGreatDoorJR11b
import Derived.Test.YtkejdbidomlonaaGreatDoorJNodeFit
import Derived.Test.YtkejdbidomlonaaGreatDoorJObjAt
namespace Go.Proofs.YtkejdbidomlonaaGreatDoor
open Go.RowKit Go.Extern.Stop Go.Stop Go.Extern

theorem as_nil (t : Value) (w : World) :
    Calls Tryz.prog 82 #[.nilIface, t] w fun e w' => e = .returned (.bool false) ∧ w' = w := by
  go_enter Tryz.func82, Tryz.ntmps82
  go_wp2
  go_ret
  exact ⟨rfl, rfl⟩

theorem asQvalueOfP (t : Addr) (w : World) : (ReflectliteValue.unpack (.iface 138 (.pointer (some t)))).run Tryz.prog w
    = .ok (.agg #[.pointer (some ⟨2, 138, none⟩), .pointer (some ⟨w.heap.size, 0, none⟩), .int .u64 150]) (w.alloc (.cells #[.pointer (some t)] 138)) := by kernel_rfl
theorem asQtypeP (a : Addr) (w : World) : (ReflectliteValue.methodAny (ReflectliteValue.valueError "reflectlite.Value.Type" 0) (fun t _ _ _ => ReflectliteType.toType t) #[.agg #[.pointer (some ⟨2, 138, none⟩), .pointer (some a), .int .u64 150]]).run Tryz.prog w
    = .ok (.iface 158 (.agg #[.pointer (some ⟨2, 138, none⟩)])) w := by kernel_rfl
theorem asQmethodKind (h : Value) (w : World) : (Go.method 376 158 (.agg #[h]) "Kind").run Tryz.prog w = .ok (189, h) w := by kernel_rfl
theorem asQkindP (w : World) : ((ReflectliteType.abiMethod fun t => (fun a : Nat => Value.int IntKind.u8 (a : Int)) <$> Rtype.kind t) #[.pointer (some ⟨2, 138, none⟩)]).run Tryz.prog w = .ok (.int .u8 22) w := by kernel_rfl
theorem asQkindE (w : World) : ((ReflectliteType.abiMethod fun t => (fun a : Nat => Value.int IntKind.u8 (a : Int)) <$> Rtype.kind t) #[.pointer (some ⟨2, 136, none⟩)]).run Tryz.prog w = .ok (.int .u8 22) w := by kernel_rfl

theorem rlm (z : Sem Value) (f : TypeId → Addr → Nat → Nat → Sem Value) (v : Value) :
    ReflectliteValue.method z f #[v] = (do match ← ReflectliteValue.parts v with | none => z | some (t, a, fl) => f t a fl (fl % 32)) := rfl
theorem asQpartsP (a : Addr) (w : World) : (ReflectliteValue.parts (.agg #[.pointer (some ⟨2, 138, none⟩), .pointer (some a), .int .u64 150])).run Tryz.prog w = .ok (some (138, a, 150)) w := by kernel_rfl
theorem asQisNilP (a p : Addr) (W : World) (ha : W.cell? a = some (.pointer (some p))) :
    (ReflectliteValue.method (ReflectliteValue.valueError "reflectlite.Value.IsNil" 0) ReflectliteValue.isNil #[.agg #[.pointer (some ⟨2, 138, none⟩), .pointer (some a), .int .u64 150]]).run Tryz.prog W = .ok (.bool false) W := by
  rw [rlm]
  simp only [Sem.run_bind, asQpartsP, Result.andThen]
  simp [ReflectliteValue.isNil, loadVar, isAgg, underlying, Tryz.underlying138, ha, Result.andThen]

theorem asQmethodElem (h : Value) (w : World) : (Go.method 376 158 (.agg #[h]) "Elem").run Tryz.prog w = .ok (200, .agg #[h]) w := by kernel_rfl
theorem asQmethodImplements (h : Value) (w : World) : (Go.method 376 158 (.agg #[h]) "Implements").run Tryz.prog w = .ok (201, .agg #[h]) w := by kernel_rfl
theorem asQmethodAssignableTo (h : Value) (w : World) : (Go.method 376 158 (.agg #[h]) "AssignableTo").run Tryz.prog w = .ok (198, .agg #[h]) w := by kernel_rfl
theorem asQelemP (w : World) : (ReflectliteType.method ReflectliteType.elem #[.agg #[.pointer (some ⟨2, 138, none⟩)]]).run Tryz.prog w = .ok (.iface 158 (.agg #[.pointer (some ⟨2, 136, none⟩)])) w := by kernel_rfl
theorem asQimplementsE (w : World) : (ReflectliteType.relation "Implements" ReflectliteType.implements_ #[.agg #[.pointer (some ⟨2, 136, none⟩)], .iface 158 (.agg #[.pointer (some ⟨2, 57, none⟩)])]).run Tryz.prog w = .ok (.bool true) w := by kernel_rfl
theorem asQtypeOfE (v : Value) (w : World) : (ReflectliteType.typeOf #[.iface 136 v]).run Tryz.prog w = .ok (.iface 158 (.agg #[.pointer (some ⟨2, 136, none⟩)])) w := by kernel_rfl
theorem asQassignableE (w : World) : (ReflectliteType.relation "AssignableTo" ReflectliteType.assignableTo #[.agg #[.pointer (some ⟨2, 136, none⟩)], .iface 158 (.agg #[.pointer (some ⟨2, 136, none⟩)])]).run Tryz.prog w = .ok (.bool true) w := by kernel_rfl
theorem asQvalueOfE (e : Addr) (w : World) : (ReflectliteValue.unpack (.iface 136 (.pointer (some e)))).run Tryz.prog w
    = .ok (.agg #[.pointer (some ⟨2, 136, none⟩), .pointer (some ⟨w.heap.size, 0, none⟩), .int .u64 150]) (w.alloc (.cells #[.pointer (some e)] 136)) := by kernel_rfl

theorem asQelemOfP (w : World) : (Rtype.elem? 138).run Tryz.prog w = .ok (some 136) w := by kernel_rfl
theorem asQmkE (p : Addr) (w : World) : (ReflectliteValue.mk 136 p ReflectliteValue.flagAddr).run Tryz.prog w = .ok (.agg #[.pointer (some ⟨2, 136, none⟩), .pointer (some p), .int .u64 406]) w := by kernel_rfl
theorem asQelemVP (a p : Addr) (W : World) (ha : W.cell? a = some (.pointer (some p))) :
    (ReflectliteValue.method (ReflectliteValue.valueError "reflectlite.Value.Elem" 0) ReflectliteValue.elem #[.agg #[.pointer (some ⟨2, 138, none⟩), .pointer (some a), .int .u64 150]]).run Tryz.prog W
      = .ok (.agg #[.pointer (some ⟨2, 136, none⟩), .pointer (some p), .int .u64 406]) W := by
  rw [rlm]
  simp only [Sem.run_bind, asQpartsP, Result.andThen]
  simp [ReflectliteValue.elem, loadVar, isAgg, underlying, Tryz.underlying138, ha, Result.andThen, asQelemOfP, asQmkE]
theorem rls (v x : Value) : ReflectliteValue.set #[v, x] = (do
    let (some (dst, a, fl), some (src, b, _)) := (← ReflectliteValue.parts v, ← ReflectliteValue.parts x)
      | unsupported (.noEntry "extern/(internal/reflectlite.Value).Set.zeroValue")
    if fl / ReflectliteValue.flagAddr % 2 == 0 then unsupported (.noEntry "extern/(internal/reflectlite.Value).Set.unaddressable")
    let val ← loadVar src b
    if ← Rtype.directlyAssignable dst src then storeVar dst a val
    else if ← Rtype.implements dst src then
      if (← Rtype.kind src) == 20 then
        match val with
        | .nilIface => unsupported (.noEntry "extern/reflectlite: a nil value of one interface type handed on as a value of another")
        | _ => storeVar dst a val
      else storeVar dst a (.iface src val)
    else panicString ("reflectlite.Set: value of type " ++ (← Rtype.spelt src) ++ " is not assignable to type " ++ (← Rtype.spelt dst))
    pure (.tuple #[])) := rfl
theorem asQpartsEa (a : Addr) (w : World) : (ReflectliteValue.parts (.agg #[.pointer (some ⟨2, 136, none⟩), .pointer (some a), .int .u64 406])).run Tryz.prog w = .ok (some (136, a, 406)) w := by kernel_rfl
theorem asQpartsE (a : Addr) (w : World) : (ReflectliteValue.parts (.agg #[.pointer (some ⟨2, 136, none⟩), .pointer (some a), .int .u64 150])).run Tryz.prog w = .ok (some (136, a, 150)) w := by kernel_rfl
theorem asQdirectE (w : World) : (Rtype.directlyAssignable 136 136).run Tryz.prog w = .ok true w := by kernel_rfl
theorem asQsizeE (w : World) : (sizeOf 136).run Tryz.prog w = .ok 1 w := by kernel_rfl
theorem asQsetE (ta b e : Addr) (old : Value) (W : World) (hb : W.cell? b = some (.pointer (some e))) (ht : W.cell? ta = some old) (hf : W.frozen? ta = false) :
    (ReflectliteValue.set #[.agg #[.pointer (some ⟨2, 136, none⟩), .pointer (some ta), .int .u64 406], .agg #[.pointer (some ⟨2, 136, none⟩), .pointer (some b), .int .u64 150]]).run Tryz.prog W
      = .ok (.tuple #[]) (W.setCell ta (.pointer (some e))) := by
  rw [rls]
  simp only [Sem.run_bind, asQpartsEa, asQpartsE, Result.andThen]
  simp [ReflectliteValue.flagAddr, loadVar, isAgg, underlying, Tryz.underlying136, hb, Result.andThen, asQdirectE, storeVar, Value.cells, storeCells, Addr.add]
  rw [run_store Tryz.prog W ta _ _ (by rfl)]
  simp [ht, hf]

set_option maxHeartbeats 4000000 in
theorem as_hit (e t : Addr) (old : Value) (w : World) (hg : w.cell? ⟨0, 0, none⟩ = some (.iface 158 (.agg #[.pointer (some ⟨2, 57, none⟩)]))) (ht0 : w.cell? t = some old) (hf0 : w.frozen? t = false) :
    Calls Tryz.prog 82 #[.iface 136 (.pointer (some e)), .iface 138 (.pointer (some t))] w fun ev w' => ev = .returned (.bool true) ∧ w' = ((((w.alloc (.cells #[.pointer (some t)] 138)).alloc (.cells #[.pointer (some ⟨2, 138, none⟩), .pointer (some ⟨w.heap.size, 0, none⟩), .int .u64 150] 183)).alloc (.cells #[.pointer (some ⟨2, 138, none⟩), .pointer (some ⟨w.heap.size, 0, none⟩), .int .u64 150] 183)).alloc (.cells #[.pointer (some e)] 136)).setCell t (.pointer (some e)) := by
  have h6 := @run_callFunc_extern Tryz.prog 109 _ (fun args => ReflectliteValue.unpack (args.getD 0 (.tuple #[]))) Tryz.func109 (by kernel_rfl) (by kernel_rfl) (by kernel_rfl) (by kernel_rfl)
  have h7 := @run_callFunc_extern Tryz.prog 110 _ (ReflectliteValue.methodAny (ReflectliteValue.valueError "reflectlite.Value.Type" 0) (fun t _ _ _ => ReflectliteType.toType t)) Tryz.func110 (by kernel_rfl) (by kernel_rfl) (by kernel_rfl) (by kernel_rfl)
  have h8 := @run_callFunc_extern Tryz.prog 111 _ (ReflectliteValue.method (ReflectliteValue.valueError "reflectlite.Value.IsNil" 0) ReflectliteValue.isNil) Tryz.func111 (by kernel_rfl) (by kernel_rfl) (by kernel_rfl) (by kernel_rfl)
  have h27 := @run_callFunc_extern Tryz.prog 189 _ (ReflectliteType.abiMethod fun t => do pure (.int .u8 (← Rtype.kind t))) Tryz.func189 (by kernel_rfl) (by kernel_rfl) (by kernel_rfl) (by kernel_rfl)
  have h37 := @run_callFunc_extern Tryz.prog 200 _ (ReflectliteType.method ReflectliteType.elem) Tryz.func200 (by kernel_rfl) (by kernel_rfl) (by kernel_rfl) (by kernel_rfl)
  have h38 := @run_callFunc_extern Tryz.prog 201 _ (ReflectliteType.relation "Implements" ReflectliteType.implements_) Tryz.func201 (by kernel_rfl) (by kernel_rfl) (by kernel_rfl) (by kernel_rfl)
  have h10 := @run_callFunc_extern Tryz.prog 71 _ ReflectliteType.typeOf Tryz.func71 (by kernel_rfl) (by kernel_rfl) (by kernel_rfl) (by kernel_rfl)
  have h35 := @run_callFunc_extern Tryz.prog 198 _ (ReflectliteType.relation "AssignableTo" ReflectliteType.assignableTo) Tryz.func198 (by kernel_rfl) (by kernel_rfl) (by kernel_rfl) (by kernel_rfl)
  have h11 := @run_callFunc_extern Tryz.prog 140 _ (ReflectliteValue.method (ReflectliteValue.valueError "reflectlite.Value.Elem" 0) ReflectliteValue.elem) Tryz.func140 (by kernel_rfl) (by kernel_rfl) (by kernel_rfl) (by kernel_rfl)
  have h12 := @run_callFunc_extern Tryz.prog 141 _ ReflectliteValue.set Tryz.func141 (by kernel_rfl) (by kernel_rfl) (by kernel_rfl) (by kernel_rfl)
  have tO := asQtypeOfE
  have mA := asQmethodAssignableTo
  have a25 := asQassignableE
  have v25 := asQvalueOfE
  have f6 := asQvalueOfP
  have f7 := asQtypeP
  have mK := asQmethodKind
  have mE := asQmethodElem
  have mI := asQmethodImplements
  have k27 := asQkindP
  have k25 := asQkindE
  have e27 := asQelemP
  have i25 := asQimplementsE
  have n8 := asQisNilP ⟨w.heap.size, 0, none⟩ t ((w.alloc (.cells #[.pointer (some t)] 138)).alloc (.cells #[.pointer (some ⟨2, 138, none⟩), .pointer (some ⟨w.heap.size, 0, none⟩), .int .u64 150] 183)) (by simp)
  have hlt : 0 < w.heap.size := by
    rcases Nat.eq_zero_or_pos w.heap.size with h0 | h
    · simp [World.cell?, h0] at hg
    · exact h
  have hg2 : ((w.alloc (.cells #[.pointer (some t)] 138)).alloc (.cells #[.pointer (some ⟨2, 138, none⟩), .pointer (some ⟨w.heap.size, 0, none⟩), .int .u64 150] 183)).cell? ⟨0, 0, none⟩ = some (.iface 158 (.agg #[.pointer (some ⟨2, 57, none⟩)])) := by
    rw [World.cell?_alloc_lt _ _ ⟨0, 0, none⟩ (by simp), World.cell?_alloc_lt _ _ ⟨0, 0, none⟩ hlt]; exact hg
  have htl : t.block < w.heap.size := by
    rcases Nat.lt_or_ge t.block w.heap.size with h | h
    · exact h
    · simp [World.cell?, Array.getElem?_eq_none h] at ht0
  have el := asQelemVP ⟨w.heap.size, 0, none⟩ t (((w.alloc (.cells #[.pointer (some t)] 138)).alloc (.cells #[.pointer (some ⟨2, 138, none⟩), .pointer (some ⟨w.heap.size, 0, none⟩), .int .u64 150] 183)).alloc (.cells #[.pointer (some ⟨2, 138, none⟩), .pointer (some ⟨w.heap.size, 0, none⟩), .int .u64 150] 183)) (by rw [World.cell?_alloc_lt _ _ ⟨w.heap.size, 0, none⟩ (by simp; omega)]; simp)
  have st := asQsetE t ⟨w.heap.size + 1 + 1 + 1, 0, none⟩ e old ((((w.alloc (.cells #[.pointer (some t)] 138)).alloc (.cells #[.pointer (some ⟨2, 138, none⟩), .pointer (some ⟨w.heap.size, 0, none⟩), .int .u64 150] 183)).alloc (.cells #[.pointer (some ⟨2, 138, none⟩), .pointer (some ⟨w.heap.size, 0, none⟩), .int .u64 150] 183)).alloc (.cells #[.pointer (some e)] 136))
    (by rw [World.cell?_alloc_at _ _ _ _ (by simp)]; rfl)
    (by rw [World.cell?_alloc_lt _ _ t (by simp; omega), World.cell?_alloc_lt _ _ t (by simp; omega), World.cell?_alloc_lt _ _ t (by simp; omega), World.cell?_alloc_lt _ _ t htl]; exact ht0)
    (by rw [World.frozen?_alloc_old _ _ t (by simp; omega), World.frozen?_alloc_old _ _ t (by simp; omega), World.frozen?_alloc_old _ _ t (by simp; omega), World.frozen?_alloc_old _ _ t (Nat.ne_of_lt htl)]; exact hf0)
  go_enter Tryz.func82, Tryz.ntmps82
  go_wp2
  refine wp_loop_rounds 1 ?_
  rw [rounds_succ]
  go_wp2
  go_ret
  exact ⟨rfl, rfl⟩
end Go.Proofs.YtkejdbidomlonaaGreatDoor

namespace Go.Proofs.YtkejdbidomlonaaGreatDoor
open Go.RowKit

/-- What the library's variable of the type error holds. -/
def ErrT (w : World) : Prop := w.cell? ⟨0, 0, none⟩ = some (.iface 158 (.agg #[.pointer (some ⟨2, 57, none⟩)]))
theorem ErrT.below {w w' : World} (h : ErrT w) (hb : Below w.heap.size w w') : ErrT w' := cell_below hb h
theorem as_walk (e b : Nat) (old : Value) (w : World) (hg : ErrT w) (hb : w.heap[b]? = some (.cells #[old] 136 (0, 0))) :
    Calls Tryz.prog 82 #[.iface 136 (.pointer (some ⟨e, 0, none⟩)), .iface 138 (.pointer (some ⟨b, 0, none⟩))] w fun ev w' => ev = .returned (.bool true) ∧ Gro b w w' := by
  refine (as_hit ⟨e, 0, none⟩ ⟨b, 0, none⟩ old w hg (heap_cell hb (j := 0) rfl) (heap_free hb 0)).mono ?_
  rintro ev w' ⟨h1, rfl⟩
  have hB : ∀ (W : World) (o : Obj), Gro b w W → Gro b w (W.alloc o) := fun W o h => gro_chain h ((Below.refl _ _).alloc (Nat.le_refl _) o)
  exact ⟨h1, gro_set (hB _ _ (hB _ _ (hB _ _ (hB _ _ (World.grownBy.refl _ _))))) 0 _⟩


/-- The same, and where the rows lie. -/
def ReadPost2 (s : List UInt8) (w : World) (e : Ending) (w' : World) : Prop :=
  ∃ (vp ve : Value), e = .returned (.tuple #[NodV (readN s).1 vp ve, .int .i64 (readN s).2]) ∧ NodRow w' (readN s).1 vp ve ∧ ((∀ j, vp.ownBlock = some j → w.heap.size ≤ j) ∧ (∀ j, ve.ownBlock = some j → w.heap.size ≤ j)) ∧ Below w.heap.size w w'

set_option maxHeartbeats 4000000 in
set_option maxRecDepth 100000 in
theorem pread2_walk (s : List UInt8) (w : World) (hT : ErrT w) (hs : s.length ≤ 1000000) :
    Calls Tryz.prog 56 #[S s] w (ReadPost2 s w) := by
  have HT := Lib.hid hT
  clear hT
  obtain ⟨w1, hw1, hb1, hz1⟩ : ∃ w1, w1 = w.alloc (.cells #[.int .i64 0, .string ⟨#[]⟩, .slice none 0 0, .slice none 0 0] 77) ∧ Below w.heap.size w w1 ∧ w1.heap[w.heap.size]? = some (.cells #[.int .i64 0, .string ⟨#[]⟩, .slice none 0 0, .slice none 0 0] 77 (0, 0)) :=
    ⟨_, rfl, (Below.refl _ _).alloc (Nat.le_refl _) _, heap_alloc_new _ _⟩
  obtain ⟨w2, hw2, hb2, hz2, hg2, hsz⟩ : ∃ w2, w2 = w1.alloc (.cells #[S s, .nilIface] 134) ∧ Below w1.heap.size w1 w2 ∧ w2.heap[w.heap.size]? = some (.cells #[.int .i64 0, .string ⟨#[]⟩, .slice none 0 0, .slice none 0 0] 77 (0, 0)) ∧ RdAt w2 w1.heap.size s true ∧ w.heap.size < w1.heap.size :=
    ⟨_, rfl, (Below.refl _ _).alloc (Nat.le_refl _) _, (((Below.refl _ _).alloc (Nat.le_refl _) _).block _ (heap_lt hz1)).trans hz1, ⟨.nilIface, heap_alloc_new _ _, .inl ⟨rfl, rfl⟩⟩, heap_lt hz1⟩
  have hB2 := below_chain hb1 hb2 hb1.size
  have CN := node_walk w1.heap.size s w2 hg2 hs
  have hgs : w1.heap.size < w2.heap.size := by obtain ⟨_, h1, _⟩ := hg2; exact heap_lt h1
  clear hb1 hb2 hg2
  go_enter Tryz.func56, Tryz.ntmps56
  go_upto_region 1 with fail
  rw [← hw1]
  clear hw1
  go_wp2_with fail
  rw [← hw2]
  refine CN.mono ?_
  rintro e w3 ⟨n, vp, ve, ev, ok, rfl, hev, hrow, hvb, hg3, hyes, hno⟩
  have hz3 := (hg3.block _ (heap_lt hz2) (by simp; omega)).trans hz2
  have hB3 : Below w.heap.size w w3 := hB2.trans (gro_below hg3 (by omega) (by omega))
  obtain ⟨va, vc, rfl⟩ := row_slice hrow.parts
  obtain ⟨ua, uc, rfl⟩ := row_slice hrow.ents
  obtain ⟨w4, hw4, hn4, hz4, hB4, hb34⟩ : ∃ w4, w4 = w3.alloc (.cells #[.int .i64 n.kind, S n.data, .slice va n.parts.length vc, .slice ua n.ents.length uc] 77) ∧ w4.heap[w3.heap.size]? = some (.cells #[.int .i64 n.kind, S n.data, .slice va n.parts.length vc, .slice ua n.ents.length uc] 77 (0, 0)) ∧ w4.heap[w.heap.size]? = some (.cells #[.int .i64 0, .string ⟨#[]⟩, .slice none 0 0, .slice none 0 0] 77 (0, 0)) ∧ Below w.heap.size w w4 ∧ Below w3.heap.size w3 w4 :=
    ⟨_, rfl, heap_alloc_new _ _, (((Below.refl _ _).alloc (Nat.le_refl _) _).block _ (heap_lt hz3)).trans hz3, hB3.alloc hB3.size _, (Below.refl _ _).alloc (Nat.le_refl _) _⟩
  obtain ⟨w5, hw5, hn5, hz5, ht5, hB5, hb45, hs45⟩ : ∃ w5, w5 = w4.alloc (.cells #[.pointer none] 136) ∧ w5.heap[w3.heap.size]? = some (.cells #[.int .i64 n.kind, S n.data, .slice va n.parts.length vc, .slice ua n.ents.length uc] 77 (0, 0)) ∧ w5.heap[w.heap.size]? = some (.cells #[.int .i64 0, .string ⟨#[]⟩, .slice none 0 0, .slice none 0 0] 77 (0, 0)) ∧ w5.heap[w4.heap.size]? = some (.cells #[.pointer none] 136 (0, 0)) ∧ Below w.heap.size w w5 ∧ Below w4.heap.size w4 w5 ∧ w.heap.size < w4.heap.size :=
    ⟨_, rfl, (((Below.refl _ _).alloc (Nat.le_refl _) _).block _ (heap_lt hn4)).trans hn4, (((Below.refl _ _).alloc (Nat.le_refl _) _).block _ (heap_lt hz4)).trans hz4, heap_alloc_new _ _, hB4.alloc hB4.size _, (Below.refl _ _).alloc (Nat.le_refl _) _, heap_lt hz4⟩
  have hrow5 := (hrow.below hb34).below hb45
  have hT5 := HT.out.below hB5
  have hvz : ∀ j, (Value.slice va n.parts.length vc).ownBlock = some j → w.heap.size ≠ j := fun j hj => by have := hvb.1 j hj; omega
  have hvz2 : ∀ j, (Value.slice ua n.ents.length uc).ownBlock = some j → w.heap.size ≠ j := fun j hj => by have := hvb.2 j hj; omega
  have HVB := Lib.hid (show (∀ j, (Value.slice va n.parts.length vc).ownBlock = some j → w.heap.size ≤ j) ∧ (∀ j, (Value.slice ua n.ents.length uc).ownBlock = some j → w.heap.size ≤ j) from ⟨fun j hj => by have := hvb.1 j hj; omega, fun j hj => by have := hvb.2 j hj; omega⟩)
  clear hvb
  clear CN hg3 hz3 hB3 hz2 hB2 hz1 hz4 hB4 hn4 hrow hb34 hb45
  go_upto_region 2 with fail
  rw [← hw4]
  clear hw4
  go_upto_region 3 with fail
  rw [← hw5]
  clear hw5
  rcases hev with ⟨rfl, rfl⟩ | ⟨rfl, b, rfl⟩
  · have hres := hyes rfl
    obtain ⟨⟨n0, n1, n2, n3⟩, -, -⟩ := box4 hn5
    obtain ⟨⟨c0, c1, c2, c3⟩, ⟨f0, f1, f2, f3⟩, ⟨q0, q1, q2, q3⟩⟩ := box4 hz5
    obtain ⟨w9, hw9, hz9, hB9, hrow9⟩ : ∃ w9, w9 = (((w5.setCell ⟨w.heap.size, 0, none⟩ (.int .i64 n.kind)).setCell ⟨w.heap.size, 1, none⟩ (S n.data)).setCell ⟨w.heap.size, 2, none⟩ (.slice va n.parts.length vc)).setCell ⟨w.heap.size, 3, none⟩ (.slice ua n.ents.length uc) ∧ w9.heap[w.heap.size]? = some (.cells #[.int .i64 n.kind, S n.data, .slice va n.parts.length vc, .slice ua n.ents.length uc] 77 (0, 0)) ∧ Below w.heap.size w w9 ∧ Hid (NodRow w9 n (.slice va n.parts.length vc) (.slice ua n.ents.length uc)) := by
      exact ⟨_, rfl, heap_set_cell (heap_set_cell (heap_set_cell (heap_set_cell hz5 _) _) _) _, below_setT (below_setT (below_setT (below_setT hB5 (Nat.le_refl _) _ _) (Nat.le_refl _) _ _) (Nat.le_refl _) _ _) (Nat.le_refl _) _ _,
        Lib.hid (nod_other (nod_other (nod_other (nod_other hrow5 hvz hvz2 _ _) hvz hvz2 _ _) hvz hvz2 _ _) hvz hvz2 _ _)⟩
    have HRES := Lib.hid hres
    have HB9 := Lib.hid hB9
    clear hn5 hz5 hres hB9 hB5 ht5 hyes hno
    go_wp2_with (go_at_call 82; refine (as_nil _ _).mono ?_; rintro e w6 ⟨rfl, rfl⟩)
    rw [← hw9]
    obtain ⟨⟨x0, x1, x2, x3⟩, -, -⟩ := box4 hz9
    refine bodyPost_ret (v := .tuple #[NodV n (.slice va n.parts.length vc) (.slice ua n.ents.length uc), .int .i64 0]) (by simp [results, Tryz.results56, go_sem, x0, x1, x2, x3]) rfl ?_
    exact ⟨_, _, by rw [HRES.out], by rw [HRES.out]; exact hrow9.out, HVB.out, HB9.out⟩
  · have hres := hno rfl
    have CA := as_walk b w4.heap.size (.pointer none) w5 hT5 ht5
    have HRES := Lib.hid hres
    clear hn5 hres hyes hno hT5 ht5
    go_wp2_with fail
    refine CA.mono ?_
    rintro e w6 ⟨rfl, hg6⟩
    have hz6 := (hg6.block _ (heap_lt hz5) (by simp; omega)).trans hz5
    have hB6 : Below w.heap.size w w6 := hB5.trans (gro_below hg6 (by omega) hB5.size)
    obtain ⟨⟨c0, c1, c2, c3⟩, ⟨f0, f1, f2, f3⟩, ⟨q0, q1, q2, q3⟩⟩ := box4 hz6
    obtain ⟨w9, hw9, hz9, hB9⟩ : ∃ w9, w9 = (((w6.setCell ⟨w.heap.size, 0, none⟩ (.int .i64 0)).setCell ⟨w.heap.size, 1, none⟩ (.string ⟨#[]⟩)).setCell ⟨w.heap.size, 2, none⟩ (.slice none 0 0)).setCell ⟨w.heap.size, 3, none⟩ (.slice none 0 0) ∧ w9.heap[w.heap.size]? = some (.cells #[.int .i64 0, .string ⟨#[]⟩, .slice none 0 0, .slice none 0 0] 77 (0, 0)) ∧ Below w.heap.size w w9 :=
      ⟨_, rfl, heap_set_cell (heap_set_cell (heap_set_cell (heap_set_cell hz6 _) _) _) _, below_setT (below_setT (below_setT (below_setT hB6 (Nat.le_refl _) _ _) (Nat.le_refl _) _ _) (Nat.le_refl _) _ _) (Nat.le_refl _) _ _⟩
    have HB9 := Lib.hid hB9
    clear CA hg6 hz5 hz6 hB9 hB6 hB5
    go_wp2
    rw [← hw9]
    obtain ⟨⟨x0, x1, x2, x3⟩, -, -⟩ := box4 hz9
    refine bodyPost_ret (v := .tuple #[NodV zNod (.slice none 0 0) (.slice none 0 0), .int .i64 2]) (by simp [results, Tryz.results56, go_sem, x0, x1, x2, x3, zNod]) rfl ?_
    exact ⟨_, _, by rw [HRES.out], by rw [HRES.out]; exact ⟨Row.nil _ _, Row.nil _ _⟩, ⟨(fun j hj => by simp [Value.ownBlock] at hj), (fun j hj => by simp [Value.ownBlock] at hj)⟩, HB9.out⟩
theorem pread11_walk (s : List UInt8) (w : World) (hT : ErrT w) (hs : s.length ≤ 1000000) :
    Calls Tryz.prog 56 #[S s] w (ReadPost s w) := by
  refine (pread2_walk s w hT hs).mono ?_
  rintro e w' ⟨vp, ve, rfl, h, -, hb⟩
  exact ⟨vp, ve, rfl, h, hb⟩
end Go.Proofs.YtkejdbidomlonaaGreatDoor

namespace Go.Proofs.YtkejdbidomlonaaGreatDoor
open Go.RowKit

def wV (n : Nat) : Value := .int .u32 n
def bV (c : UInt8) : Value := .int .u8 (c.toNat : Nat)

section
variable {P : Program}
theorem run_index_agg (t e : TypeId) (n k : Nat) (cs : Array Value) (v : Value) (d : TypeDesc) (h : P.underlying t = some (.array n e)) (he : P.underlying e = some d) (hd : (match d with | .struct _ | .array _ _ => true | _ => false) = false)
    (hs : (P.info? e).map (·.size) = some 1) (hk : k < n) (hc : cs[k]? = some v) (w : World) :
    (Instr.index t (.agg cs) (.int .i64 k)).run P w = .ok v w := by
  have hagg : (isAgg e).run P w = .ok false w := by
    unfold isAgg
    rw [Sem.run_bind, run_underlying he w]
    cases d <;> simp_all
  have hk' : 0 ≤ (k : Int) ∧ (k : Int) < (n : Int) := ⟨by omega, by omega⟩
  cases hq : P.info? e with
  | none => simp [hq] at hs
  | some i =>
    have hi : i.size = 1 := by simpa [hq] using hs
    simp [Instr.index, run_underlying h, asIntOf, hk, part, hagg, sizeOf, typeInfo, hq, hi, hc]
/-- a whole array read out of a block. -/
theorem run_load_part (w : World) (g o : Nat) (ty : TypeId) (cs : List Value) (d : TypeDesc) (hc : ∀ j v, cs[j]? = some v → w.cell? ⟨g, o + j, none⟩ = some v)
    (hu : P.underlying ty = some d) (hd : (match d with | .struct _ | .array _ _ => true | _ => false) = true) (hi : (P.info? ty).map (·.size) = some cs.length) :
    (loadVar ty ⟨g, o, none⟩).run P w = .ok (.agg cs.toArray) w := by
  have hl : (loadCells ⟨g, o, none⟩ cs.length).run P w = .ok cs.toArray w :=
    run_loadCells_list (P := P) w ⟨g, o, none⟩ cs (fun j v hv => by
      have hadd : (⟨g, o, none⟩ : Addr).add j = ⟨g, o + j, none⟩ := by unfold Addr.add; split <;> simp_all
      rw [hadd]
      exact hc j v hv)
  cases hq : P.info? ty with
  | none => simp [hq] at hi
  | some i =>
    have hs : i.size = cs.length := by simpa [hq] using hi
    have hagg : (isAgg ty).run P w = .ok true w := by
      unfold isAgg
      rw [Sem.run_bind, run_underlying hu w]
      cases d <;> simp_all
    simp [loadVar, Sem.run_bind, hagg, sizeOf, typeInfo, hq, hs, hl]
theorem wpList_load_at {ops : Array Oper} {rest : List Oper} {o : Oper} {a : Act} {w : World} {Q : Exit → Act → World → Prop} (hgd : o.guard = none) (ty : TypeId) (x : Operand) (ho : o.op = .load ty x) (ad : Addr) (hx : a.eval x = .pointer (some ad)) (v : Value)
    (hr : (loadVar ty ad).run P w = .ok v w) (h : wpList P ops Q rest (a.put o.dst v) w) : wpList P ops Q (o :: rest) a w := by
  refine wpList_plain hgd fun K hK => ?_
  unfold Oper.wp execOp
  simp only [ho, hx, Instr.loadAt, Instr.sureAddr, Sem.run_bind, Sem.run_pure, Result.andThen_ok, hr]
  exact hK _ _ h
theorem wpQuiet_load {ops : Array Oper} {C : World → Prop} {Q : Act → Prop} {a : Act} {o : Oper} {rest : List Oper} (hg : o.guard = none) (ty : TypeId) (x : Operand) (ho : o.op = .load ty x) (ad : Addr) (hx : a.eval x = .pointer (some ad)) (v : Value)
    (hr : ∀ w, C w → (loadVar ty ad).run P w = .ok v w) (h : wpQuiet P ops C Q rest (a.put o.dst v)) : wpQuiet P ops C Q (o :: rest) a := by
  refine wpQuiet_step fun K hK => ?_
  have hw : Region.wanted o (yielded ops a.tmps) = true := by simp [Region.wanted, hg]
  rw [if_pos hw]
  refine ⟨v, fun w hw => ?_, hK _ h⟩
  unfold Oper.quietAt execOp
  simp only [ho, hx, Instr.loadAt, Instr.sureAddr, Sem.run_bind, Sem.run_pure, Result.andThen_ok, hr w hw]
  exact ⟨rfl, rfl⟩
/-- .. written into one, at its head. -/
theorem run_store_head (w : World) (g : Nat) (t : TypeId) (cur : List Value) (cs : List Value) (hg : w.heap[g]? = some (.cells cur.toArray t (0, 0))) (ho : cs.length ≤ cur.length) (h1 : ∀ v ∈ cs, v.oneCell' = true) :
    (storeCells ⟨g, 0, none⟩ cs).run P w = .ok () (w.setRow g (cs ++ cur.drop cs.length).toArray) := by
  have := run_storeCells_at P g 0 t cs 0 cur.toArray w hg (by simpa using ho) h1
  simpa using this
end

theorem heap_alloc3 (w : World) (A B C : Obj) : (((w.alloc A).alloc B).alloc C).heap[w.heap.size + 1 + 1]? = some C := by
  have := heap_alloc_new ((w.alloc A).alloc B) C
  simpa using this
/-- cells one behind the other in block g, and not frozen. -/
theorem arr_cell {w : World} {g : Nat} {cs : Array Value} {t : TypeId} (h : w.heap[g]? = some (.cells cs t (0, 0))) {i : Nat} {v : Value} (hv : cs[i]? = some v) : w.cell? ⟨g, i, none⟩ = some v := by
  rw [cell_of_row w g i cs t (0, 0) h]; exact hv
theorem map_at {α : Type} {f : α → Value} {l : List α} {i : Nat} (h : i < l.length) : (l.map f).toArray[i]? = some (f l[i]) := by simp [h]

/-- words, and zeros behind them: n in all. -/
def cellsW (n : Nat) (ws : List Nat) : Array Value := (ws.map wV ++ List.replicate (n - ws.length) (Value.int .u32 0)).toArray
theorem cellsW_size {n : Nat} {ws : List Nat} (h : ws.length ≤ n) : (cellsW n ws).size = n := by simp [cellsW]; omega
theorem cellsW_at {n : Nat} {ws : List Nat} {i : Nat} (h : i < ws.length) : (cellsW n ws)[i]? = some (wV ws[i]) := by
  simp [cellsW, List.getElem?_append_left, h]
theorem cellsW_zero {n : Nat} {ws : List Nat} {i : Nat} (h : ws.length ≤ i) (hn : i < n) : (cellsW n ws)[i]? = some (.int .u32 0) := by
  simp only [cellsW, List.getElem?_toArray]
  rw [List.getElem?_append_right (by simpa using h), List.getElem?_replicate, if_pos (by simp; omega)]
theorem cellsW_set {n : Nat} {ws : List Nat} (x : Nat) (h : ws.length < n) : (cellsW n ws).setIfInBounds ws.length (wV x) = cellsW n (ws ++ [x]) := by
  apply Array.ext'
  simp only [cellsW, Array.toList_setIfInBounds]
  rw [List.set_append_right _ _ (by simp), List.length_map, Nat.sub_self]
  obtain ⟨m, hm⟩ : ∃ m, n - ws.length = m + 1 := ⟨n - ws.length - 1, by omega⟩
  rw [hm, List.replicate_succ, List.set_cons_zero, List.map_append, List.length_append, List.length_singleton, show n - (ws.length + 1) = m by omega, List.append_assoc]
  rfl
theorem cellsW_all {n : Nat} {ws : List Nat} (h : ws.length = n) : cellsW n ws = (ws.map wV).toArray := by
  simp [cellsW, h]
theorem one_map {α : Type} {f : α → Value} (hf : ∀ x, (f x).oneCell' = true) (l : List α) : (l.map f).toArray.all (·.oneCell') = true := by
  simp [hf]
/-- a word of a row of words turns. -/
theorem arr_set {w w0 : World} {B g i x : Nat} {ws : List Nat} {t : TypeId} (h : w.heap[g]? = some (.cells (ws.map wV).toArray t (0, 0))) (hb : Below B w0 w) (hB : B ≤ g) :
    (w.setCell ⟨g, i, none⟩ (wV x)).heap[g]? = some (.cells ((ws.set i x).map wV).toArray t (0, 0)) ∧ Below B w0 (w.setCell ⟨g, i, none⟩ (wV x)) := by
  refine ⟨?_, hb.setCell (p := ⟨g, i, none⟩) hB _⟩
  rw [heap_setCell_same w g i _ t _ h, List.map_set]
  simp
theorem arr_frozen {w : World} {g i : Nat} {cs : Array Value} {t : TypeId} (h : w.heap[g]? = some (.cells cs t (0, 0))) : w.frozen? ⟨g, i, none⟩ = false := frozen_of_row w g i cs t h
theorem or_val {x c k : Nat} (hx : x < 4294967296) (hc : c < 256) : bits BinOp.or IntKind.u32 (x : Int) ((c : Int) % 4294967296 * 2 ^ (24 - 8 * (k % 4)) % 4294967296) = ((x ||| c * 2 ^ (24 - 8 * (k % 4)) : Nat) : Int) := by
  have h2 : c * 2 ^ (24 - 8 * (k % 4)) < 4294967296 := by
    have : 2 ^ (24 - 8 * (k % 4)) ≤ 2 ^ 24 := Nat.pow_le_pow_right (by decide) (by omega)
    calc c * 2 ^ (24 - 8 * (k % 4)) ≤ 255 * 2 ^ 24 := Nat.mul_le_mul (by omega) this
      _ < 4294967296 := by decide
  have e : (c : Int) % 4294967296 * 2 ^ (24 - 8 * (k % 4)) % 4294967296 = ((c * 2 ^ (24 - 8 * (k % 4)) : Nat) : Int) := by
    rw [show (c : Int) % 4294967296 = (c : Int) by omega, cast_lo, Nat.mod_eq_of_lt h2]
  rw [e, u32_or_nat _ _ hx h2]
/-- .. the first of the zeros. -/
theorem arr_push {w w0 : World} {B g x n : Nat} {ws : List Nat} {t : TypeId} (h : w.heap[g]? = some (.cells (cellsW n ws) t (0, 0))) (hn : ws.length < n) (hb : Below B w0 w) (hB : B ≤ g) :
    (w.setCell ⟨g, ws.length, none⟩ (wV x)).heap[g]? = some (.cells (cellsW n (ws ++ [x])) t (0, 0)) ∧ Below B w0 (w.setCell ⟨g, ws.length, none⟩ (wV x)) := by
  refine ⟨?_, hb.setCell (p := ⟨g, ws.length, none⟩) hB _⟩
  rw [heap_setCell_same w g _ _ t _ h, cellsW_set x hn]
theorem arr_push' {w : World} {g x n : Nat} {ws : List Nat} {t : TypeId} (h : w.heap[g]? = some (.cells (cellsW n ws) t (0, 0))) (hn : ws.length < n) :
    (w.setCell ⟨g, ws.length, none⟩ (wV x)).heap[g]? = some (.cells (cellsW n (ws ++ [x])) t (0, 0)) := by
  rw [heap_setCell_same w g _ _ t _ h, cellsW_set x hn]
theorem laid_row (w : World) (A cs : Array Value) (t : TypeId) : ((w.alloc (.cells A t)).setRow w.heap.size cs).heap[w.heap.size]? = some (.cells cs t (0, 0)) ∧ Below w.heap.size w ((w.alloc (.cells A t)).setRow w.heap.size cs) :=
  ⟨setRow_heap _ _ _ _ _ _ (heap_alloc_new _ _), below_setRow ((Below.refl _ _).alloc (Nat.le_refl _) _) (Nat.le_refl _) _⟩
/-- eight words in memory. -/
theorem box8 {w : World} {g : Nat} {t : TypeId} {v : H8} (h : w.heap[g]? = some (.cells (v.words.map wV).toArray t (0, 0))) :
    (w.cell? ⟨g, 0, none⟩ = some (.int .u32 (v.a : Nat)) ∧ w.cell? ⟨g, 1, none⟩ = some (.int .u32 (v.b : Nat)) ∧ w.cell? ⟨g, 2, none⟩ = some (.int .u32 (v.c : Nat)) ∧ w.cell? ⟨g, 3, none⟩ = some (.int .u32 (v.d : Nat)) ∧ w.cell? ⟨g, 4, none⟩ = some (.int .u32 (v.e : Nat)) ∧ w.cell? ⟨g, 5, none⟩ = some (.int .u32 (v.f : Nat)) ∧ w.cell? ⟨g, 6, none⟩ = some (.int .u32 (v.g : Nat)) ∧ w.cell? ⟨g, 7, none⟩ = some (.int .u32 (v.h : Nat))) :=
  ⟨arr_cell h rfl, arr_cell h rfl, arr_cell h rfl, arr_cell h rfl, arr_cell h rfl, arr_cell h rfl, arr_cell h rfl, arr_cell h rfl⟩
theorem set_at {w : World} {g : Nat} {t : TypeId} {l : List Value} (h : w.heap[g]? = some (.cells l.toArray t (0, 0))) (i : Nat) (x : Value) : (w.setCell ⟨g, i, none⟩ x).heap[g]? = some (.cells (l.set i x).toArray t (0, 0)) := by
  rw [heap_setCell_same w g i _ t x h]
  simp
/-- all eight turned, the last one first. -/
theorem set8 {w : World} {g : Nat} {t : TypeId} {v : H8} (h : w.heap[g]? = some (.cells (v.words.map wV).toArray t (0, 0))) (x0 x1 x2 x3 x4 x5 x6 x7 : Value) :
    ((((((((w.setCell ⟨g, 7, none⟩ x7).setCell ⟨g, 6, none⟩ x6).setCell ⟨g, 5, none⟩ x5).setCell ⟨g, 4, none⟩ x4).setCell ⟨g, 3, none⟩ x3).setCell ⟨g, 2, none⟩ x2).setCell ⟨g, 1, none⟩ x1).setCell ⟨g, 0, none⟩ x0).heap[g]? = some (.cells [x0, x1, x2, x3, x4, x5, x6, x7].toArray t (0, 0)) := by
  have h' := set_at (set_at (set_at (set_at (set_at (set_at (set_at (set_at h 7 x7) 6 x6) 5 x5) 4 x4) 3 x3) 2 x2) 1 x1) 0 x0
  simp only [H8.words, List.map_cons, List.map_nil, List.set_cons_succ, List.set_cons_zero] at h'
  exact h'
theorem gro_set8 {w0 w : World} {g : Nat} (h : Gro g w0 w) (x0 x1 x2 x3 x4 x5 x6 x7 : Value) :
    Gro g w0 ((((((((w.setCell ⟨g, 7, none⟩ x7).setCell ⟨g, 6, none⟩ x6).setCell ⟨g, 5, none⟩ x5).setCell ⟨g, 4, none⟩ x4).setCell ⟨g, 3, none⟩ x3).setCell ⟨g, 2, none⟩ x2).setCell ⟨g, 1, none⟩ x1).setCell ⟨g, 0, none⟩ x0) :=
  gro_set (gro_set (gro_set (gro_set (gro_set (gro_set (gro_set (gro_set h 7 _) 6 _) 5 _) 4 _) 3 _) 2 _) 1 _) 0 _
/-- bytes, and zeros behind them: n in all. -/
def cellsBy (n : Nat) (bs : List UInt8) : Array Value := (bs.map bV ++ List.replicate (n - bs.length) (Value.int .u8 0)).toArray
theorem cellsBy_zero {n : Nat} {ws : List UInt8} {i : Nat} (h : ws.length ≤ i) (hn : i < n) : (cellsBy n ws)[i]? = some (.int .u8 0) := by
  simp only [cellsBy, List.getElem?_toArray]
  rw [List.getElem?_append_right (by simpa using h), List.getElem?_replicate, if_pos (by simp; omega)]
theorem cellsBy_set {n : Nat} {ws : List UInt8} (x : UInt8) (h : ws.length < n) : (cellsBy n ws).setIfInBounds ws.length (bV x) = cellsBy n (ws ++ [x]) := by
  apply Array.ext'
  simp only [cellsBy, Array.toList_setIfInBounds]
  rw [List.set_append_right _ _ (by simp), List.length_map, Nat.sub_self]
  obtain ⟨m, hm⟩ : ∃ m, n - ws.length = m + 1 := ⟨n - ws.length - 1, by omega⟩
  rw [hm, List.replicate_succ, List.set_cons_zero, List.map_append, List.length_append, List.length_singleton, show n - (ws.length + 1) = m by omega, List.append_assoc]
  rfl
theorem cellsBy_all {n : Nat} {ws : List UInt8} (h : ws.length = n) : cellsBy n ws = (ws.map bV).toArray := by
  simp [cellsBy, h]
theorem arr_pushB {w : World} {g n : Nat} {x : UInt8} {ws : List UInt8} {t : TypeId} (h : w.heap[g]? = some (.cells (cellsBy n ws) t (0, 0))) (hn : ws.length < n) :
    (w.setCell ⟨g, ws.length, none⟩ (bV x)).heap[g]? = some (.cells (cellsBy n (ws ++ [x])) t (0, 0)) := by
  rw [heap_setCell_same w g _ _ t _ h, cellsBy_set x hn]
end Go.Proofs.YtkejdbidomlonaaGreatDoor
