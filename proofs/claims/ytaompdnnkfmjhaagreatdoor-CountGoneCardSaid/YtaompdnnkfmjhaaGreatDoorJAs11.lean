/- errors.As at the reader's error: Go's own text of it, walked at the two ways that it is met (after the guide's toy on errors.As). The program's node of bytes. slices.IndexFunc and slices.DeleteFunc, at string; the closure by its contract. -/
import Derived.Test.YtaompdnnkfmjhaaGreatDoorJPTText
import Derived.WalkKit
import Derived.LaidEql
import Derived.Stop.Asserts
import Derived.RowKitTokens
import Derived.Test.YtaompdnnkfmjhaaGreatDoorPNode11
import Derived.Test.YtaompdnnkfmjhaaGreatDoorJUpN
namespace Go.Proofs.YtaompdnnkfmjhaaGreatDoor
open Go.RowKit Go.Extern.Stop Go.Stop Go.Extern

theorem as_nil (t : Value) (w : World) :
    Calls Tryz.prog 81 #[.nilIface, t] w fun e w' => e = .returned (.bool false) ∧ w' = w := by
  go_enter Tryz.func81, Tryz.ntmps81
  go_wp2
  go_ret
  exact ⟨rfl, rfl⟩

theorem asQvalueOfP (t : Addr) (w : World) : (ReflectliteValue.unpack (.iface 135 (.pointer (some t)))).run Tryz.prog w
    = .ok (.agg #[.pointer (some ⟨2, 135, none⟩), .pointer (some ⟨w.heap.size, 0, none⟩), .int .u64 150]) (w.alloc (.cells #[.pointer (some t)] 135)) := by kernel_rfl
theorem asQtypeP (a : Addr) (w : World) : (ReflectliteValue.methodAny (ReflectliteValue.valueError "reflectlite.Value.Type" 0) (fun t _ _ _ => ReflectliteType.toType t) #[.agg #[.pointer (some ⟨2, 135, none⟩), .pointer (some a), .int .u64 150]]).run Tryz.prog w
    = .ok (.iface 189 (.agg #[.pointer (some ⟨2, 135, none⟩)])) w := by kernel_rfl
theorem asQmethodKind (h : Value) (w : World) : (Go.method 371 189 (.agg #[h]) "Kind").run Tryz.prog w = .ok (185, h) w := by kernel_rfl
theorem asQkindP (w : World) : ((ReflectliteType.abiMethod fun t => (fun a : Nat => Value.int IntKind.u8 (a : Int)) <$> Rtype.kind t) #[.pointer (some ⟨2, 135, none⟩)]).run Tryz.prog w = .ok (.int .u8 22) w := by kernel_rfl
theorem asQkindE (w : World) : ((ReflectliteType.abiMethod fun t => (fun a : Nat => Value.int IntKind.u8 (a : Int)) <$> Rtype.kind t) #[.pointer (some ⟨2, 133, none⟩)]).run Tryz.prog w = .ok (.int .u8 22) w := by kernel_rfl

theorem rlm (z : Sem Value) (f : TypeId → Addr → Nat → Nat → Sem Value) (v : Value) :
    ReflectliteValue.method z f #[v] = (do match ← ReflectliteValue.parts v with | none => z | some (t, a, fl) => f t a fl (fl % 32)) := rfl
theorem asQpartsP (a : Addr) (w : World) : (ReflectliteValue.parts (.agg #[.pointer (some ⟨2, 135, none⟩), .pointer (some a), .int .u64 150])).run Tryz.prog w = .ok (some (135, a, 150)) w := by kernel_rfl
theorem asQisNilP (a p : Addr) (W : World) (ha : W.cell? a = some (.pointer (some p))) :
    (ReflectliteValue.method (ReflectliteValue.valueError "reflectlite.Value.IsNil" 0) ReflectliteValue.isNil #[.agg #[.pointer (some ⟨2, 135, none⟩), .pointer (some a), .int .u64 150]]).run Tryz.prog W = .ok (.bool false) W := by
  rw [rlm]
  simp only [Sem.run_bind, asQpartsP, Result.andThen]
  simp [ReflectliteValue.isNil, loadVar, isAgg, underlying, Tryz.underlying135, ha, Result.andThen]

theorem asQmethodElem (h : Value) (w : World) : (Go.method 371 189 (.agg #[h]) "Elem").run Tryz.prog w = .ok (197, .agg #[h]) w := by kernel_rfl
theorem asQmethodImplements (h : Value) (w : World) : (Go.method 371 189 (.agg #[h]) "Implements").run Tryz.prog w = .ok (198, .agg #[h]) w := by kernel_rfl
theorem asQmethodAssignableTo (h : Value) (w : World) : (Go.method 371 189 (.agg #[h]) "AssignableTo").run Tryz.prog w = .ok (195, .agg #[h]) w := by kernel_rfl
theorem asQelemP (w : World) : (ReflectliteType.method ReflectliteType.elem #[.agg #[.pointer (some ⟨2, 135, none⟩)]]).run Tryz.prog w = .ok (.iface 189 (.agg #[.pointer (some ⟨2, 133, none⟩)])) w := by kernel_rfl
theorem asQimplementsE (w : World) : (ReflectliteType.relation "Implements" ReflectliteType.implements_ #[.agg #[.pointer (some ⟨2, 133, none⟩)], .iface 189 (.agg #[.pointer (some ⟨2, 127, none⟩)])]).run Tryz.prog w = .ok (.bool true) w := by kernel_rfl
theorem asQtypeOfE (v : Value) (w : World) : (ReflectliteType.typeOf #[.iface 133 v]).run Tryz.prog w = .ok (.iface 189 (.agg #[.pointer (some ⟨2, 133, none⟩)])) w := by kernel_rfl
theorem asQassignableE (w : World) : (ReflectliteType.relation "AssignableTo" ReflectliteType.assignableTo #[.agg #[.pointer (some ⟨2, 133, none⟩)], .iface 189 (.agg #[.pointer (some ⟨2, 133, none⟩)])]).run Tryz.prog w = .ok (.bool true) w := by kernel_rfl
theorem asQvalueOfE (e : Addr) (w : World) : (ReflectliteValue.unpack (.iface 133 (.pointer (some e)))).run Tryz.prog w
    = .ok (.agg #[.pointer (some ⟨2, 133, none⟩), .pointer (some ⟨w.heap.size, 0, none⟩), .int .u64 150]) (w.alloc (.cells #[.pointer (some e)] 133)) := by kernel_rfl

theorem asQelemOfP (w : World) : (Rtype.elem? 135).run Tryz.prog w = .ok (some 133) w := by kernel_rfl
theorem asQmkE (p : Addr) (w : World) : (ReflectliteValue.mk 133 p ReflectliteValue.flagAddr).run Tryz.prog w = .ok (.agg #[.pointer (some ⟨2, 133, none⟩), .pointer (some p), .int .u64 406]) w := by kernel_rfl
theorem asQelemVP (a p : Addr) (W : World) (ha : W.cell? a = some (.pointer (some p))) :
    (ReflectliteValue.method (ReflectliteValue.valueError "reflectlite.Value.Elem" 0) ReflectliteValue.elem #[.agg #[.pointer (some ⟨2, 135, none⟩), .pointer (some a), .int .u64 150]]).run Tryz.prog W
      = .ok (.agg #[.pointer (some ⟨2, 133, none⟩), .pointer (some p), .int .u64 406]) W := by
  rw [rlm]
  simp only [Sem.run_bind, asQpartsP, Result.andThen]
  simp [ReflectliteValue.elem, loadVar, isAgg, underlying, Tryz.underlying135, ha, Result.andThen, asQelemOfP, asQmkE]
theorem rls (v x : Value) : ReflectliteValue.set #[v, x] = (do
    let (some (dst, a, fl), some (src, b, _)) := (← ReflectliteValue.parts v, ← ReflectliteValue.parts x)
      | unsupported (.noEntry "extern/(internal/reflectlite.Value).Set.zeroValue")
    if fl / ReflectliteValue.flagAddr % 2 == 0 then unsupported (.noEntry "extern/(internal/reflectlite.Value).Set.unaddressable")
    let val ← loadVar src b
    if ← Rtype.directlyAssignable dst src then storeVar dst a val
    else if ← Rtype.implements dst src then
      if (← Rtype.kind src) == 20 then
        match val with
        | .nilIface => unsupported (.noEntry "extern/reflectlite: a nil value of one interface type handed on as a value of another")
        | _ => storeVar dst a val
      else storeVar dst a (.iface src val)
    else panicString ("reflectlite.Set: value of type " ++ (← Rtype.spelt src) ++ " is not assignable to type " ++ (← Rtype.spelt dst))
    pure (.tuple #[])) := rfl
theorem asQpartsEa (a : Addr) (w : World) : (ReflectliteValue.parts (.agg #[.pointer (some ⟨2, 133, none⟩), .pointer (some a), .int .u64 406])).run Tryz.prog w = .ok (some (133, a, 406)) w := by kernel_rfl
theorem asQpartsE (a : Addr) (w : World) : (ReflectliteValue.parts (.agg #[.pointer (some ⟨2, 133, none⟩), .pointer (some a), .int .u64 150])).run Tryz.prog w = .ok (some (133, a, 150)) w := by kernel_rfl
theorem asQdirectE (w : World) : (Rtype.directlyAssignable 133 133).run Tryz.prog w = .ok true w := by kernel_rfl
theorem asQsizeE (w : World) : (sizeOf 133).run Tryz.prog w = .ok 1 w := by kernel_rfl
theorem asQsetE (ta b e : Addr) (old : Value) (W : World) (hb : W.cell? b = some (.pointer (some e))) (ht : W.cell? ta = some old) (hf : W.frozen? ta = false) :
    (ReflectliteValue.set #[.agg #[.pointer (some ⟨2, 133, none⟩), .pointer (some ta), .int .u64 406], .agg #[.pointer (some ⟨2, 133, none⟩), .pointer (some b), .int .u64 150]]).run Tryz.prog W
      = .ok (.tuple #[]) (W.setCell ta (.pointer (some e))) := by
  rw [rls]
  simp only [Sem.run_bind, asQpartsEa, asQpartsE, Result.andThen]
  simp [ReflectliteValue.flagAddr, loadVar, isAgg, underlying, Tryz.underlying133, hb, Result.andThen, asQdirectE, storeVar, Value.cells, storeCells, Addr.add]
  rw [run_store Tryz.prog W ta _ _ (by rfl)]
  simp [ht, hf]

set_option maxHeartbeats 4000000 in
theorem as_hit (e t : Addr) (old : Value) (w : World) (hg : w.cell? ⟨0, 0, none⟩ = some (.iface 189 (.agg #[.pointer (some ⟨2, 127, none⟩)]))) (ht0 : w.cell? t = some old) (hf0 : w.frozen? t = false) :
    Calls Tryz.prog 81 #[.iface 133 (.pointer (some e)), .iface 135 (.pointer (some t))] w fun ev w' => ev = .returned (.bool true) ∧ w' = ((((w.alloc (.cells #[.pointer (some t)] 135)).alloc (.cells #[.pointer (some ⟨2, 135, none⟩), .pointer (some ⟨w.heap.size, 0, none⟩), .int .u64 150] 155)).alloc (.cells #[.pointer (some ⟨2, 135, none⟩), .pointer (some ⟨w.heap.size, 0, none⟩), .int .u64 150] 155)).alloc (.cells #[.pointer (some e)] 133)).setCell t (.pointer (some e)) := by
  have h6 := @run_callFunc_extern Tryz.prog 106 _ (fun args => ReflectliteValue.unpack (args.getD 0 (.tuple #[]))) Tryz.func106 (by kernel_rfl) (by kernel_rfl) (by kernel_rfl) (by kernel_rfl)
  have h7 := @run_callFunc_extern Tryz.prog 107 _ (ReflectliteValue.methodAny (ReflectliteValue.valueError "reflectlite.Value.Type" 0) (fun t _ _ _ => ReflectliteType.toType t)) Tryz.func107 (by kernel_rfl) (by kernel_rfl) (by kernel_rfl) (by kernel_rfl)
  have h8 := @run_callFunc_extern Tryz.prog 108 _ (ReflectliteValue.method (ReflectliteValue.valueError "reflectlite.Value.IsNil" 0) ReflectliteValue.isNil) Tryz.func108 (by kernel_rfl) (by kernel_rfl) (by kernel_rfl) (by kernel_rfl)
  have h27 := @run_callFunc_extern Tryz.prog 185 _ (ReflectliteType.abiMethod fun t => do pure (.int .u8 (← Rtype.kind t))) Tryz.func185 (by kernel_rfl) (by kernel_rfl) (by kernel_rfl) (by kernel_rfl)
  have h37 := @run_callFunc_extern Tryz.prog 197 _ (ReflectliteType.method ReflectliteType.elem) Tryz.func197 (by kernel_rfl) (by kernel_rfl) (by kernel_rfl) (by kernel_rfl)
  have h38 := @run_callFunc_extern Tryz.prog 198 _ (ReflectliteType.relation "Implements" ReflectliteType.implements_) Tryz.func198 (by kernel_rfl) (by kernel_rfl) (by kernel_rfl) (by kernel_rfl)
  have h10 := @run_callFunc_extern Tryz.prog 135 _ ReflectliteType.typeOf Tryz.func135 (by kernel_rfl) (by kernel_rfl) (by kernel_rfl) (by kernel_rfl)
  have h35 := @run_callFunc_extern Tryz.prog 195 _ (ReflectliteType.relation "AssignableTo" ReflectliteType.assignableTo) Tryz.func195 (by kernel_rfl) (by kernel_rfl) (by kernel_rfl) (by kernel_rfl)
  have h11 := @run_callFunc_extern Tryz.prog 136 _ (ReflectliteValue.method (ReflectliteValue.valueError "reflectlite.Value.Elem" 0) ReflectliteValue.elem) Tryz.func136 (by kernel_rfl) (by kernel_rfl) (by kernel_rfl) (by kernel_rfl)
  have h12 := @run_callFunc_extern Tryz.prog 137 _ ReflectliteValue.set Tryz.func137 (by kernel_rfl) (by kernel_rfl) (by kernel_rfl) (by kernel_rfl)
  have tO := asQtypeOfE
  have mA := asQmethodAssignableTo
  have a25 := asQassignableE
  have v25 := asQvalueOfE
  have f6 := asQvalueOfP
  have f7 := asQtypeP
  have mK := asQmethodKind
  have mE := asQmethodElem
  have mI := asQmethodImplements
  have k27 := asQkindP
  have k25 := asQkindE
  have e27 := asQelemP
  have i25 := asQimplementsE
  have n8 := asQisNilP ⟨w.heap.size, 0, none⟩ t ((w.alloc (.cells #[.pointer (some t)] 135)).alloc (.cells #[.pointer (some ⟨2, 135, none⟩), .pointer (some ⟨w.heap.size, 0, none⟩), .int .u64 150] 155)) (by simp)
  have hlt : 0 < w.heap.size := by
    rcases Nat.eq_zero_or_pos w.heap.size with h0 | h
    · simp [World.cell?, h0] at hg
    · exact h
  have hg2 : ((w.alloc (.cells #[.pointer (some t)] 135)).alloc (.cells #[.pointer (some ⟨2, 135, none⟩), .pointer (some ⟨w.heap.size, 0, none⟩), .int .u64 150] 155)).cell? ⟨0, 0, none⟩ = some (.iface 189 (.agg #[.pointer (some ⟨2, 127, none⟩)])) := by
    rw [World.cell?_alloc_lt _ _ ⟨0, 0, none⟩ (by simp), World.cell?_alloc_lt _ _ ⟨0, 0, none⟩ hlt]; exact hg
  have htl : t.block < w.heap.size := by
    rcases Nat.lt_or_ge t.block w.heap.size with h | h
    · exact h
    · simp [World.cell?, Array.getElem?_eq_none h] at ht0
  have el := asQelemVP ⟨w.heap.size, 0, none⟩ t (((w.alloc (.cells #[.pointer (some t)] 135)).alloc (.cells #[.pointer (some ⟨2, 135, none⟩), .pointer (some ⟨w.heap.size, 0, none⟩), .int .u64 150] 155)).alloc (.cells #[.pointer (some ⟨2, 135, none⟩), .pointer (some ⟨w.heap.size, 0, none⟩), .int .u64 150] 155)) (by rw [World.cell?_alloc_lt _ _ ⟨w.heap.size, 0, none⟩ (by simp; omega)]; simp)
  have st := asQsetE t ⟨w.heap.size + 1 + 1 + 1, 0, none⟩ e old ((((w.alloc (.cells #[.pointer (some t)] 135)).alloc (.cells #[.pointer (some ⟨2, 135, none⟩), .pointer (some ⟨w.heap.size, 0, none⟩), .int .u64 150] 155)).alloc (.cells #[.pointer (some ⟨2, 135, none⟩), .pointer (some ⟨w.heap.size, 0, none⟩), .int .u64 150] 155)).alloc (.cells #[.pointer (some e)] 133))
    (by rw [World.cell?_alloc_at _ _ _ _ (by simp)]; rfl)
    (by rw [World.cell?_alloc_lt _ _ t (by simp; omega), World.cell?_alloc_lt _ _ t (by simp; omega), World.cell?_alloc_lt _ _ t (by simp; omega), World.cell?_alloc_lt _ _ t htl]; exact ht0)
    (by rw [World.frozen?_alloc_old _ _ t (by simp; omega), World.frozen?_alloc_old _ _ t (by simp; omega), World.frozen?_alloc_old _ _ t (by simp; omega), World.frozen?_alloc_old _ _ t (Nat.ne_of_lt htl)]; exact hf0)
  go_enter Tryz.func81, Tryz.ntmps81
  go_wp2
  refine wp_loop_rounds 1 ?_
  rw [rounds_succ]
  go_wp2
  go_ret
  exact ⟨rfl, rfl⟩
end Go.Proofs.YtaompdnnkfmjhaaGreatDoor

namespace Go.Proofs.YtaompdnnkfmjhaaGreatDoor
open Go.RowKit

/-- What the library's variable of the type error holds. -/
def ErrT (w : World) : Prop := w.cell? ⟨0, 0, none⟩ = some (.iface 189 (.agg #[.pointer (some ⟨2, 127, none⟩)]))
theorem ErrT.below {w w' : World} (h : ErrT w) (hb : Below w.heap.size w w') : ErrT w' := cell_below hb h
theorem as_walk (e b : Nat) (old : Value) (w : World) (hg : ErrT w) (hb : w.heap[b]? = some (.cells #[old] 133 (0, 0))) :
    Calls Tryz.prog 81 #[.iface 133 (.pointer (some ⟨e, 0, none⟩)), .iface 135 (.pointer (some ⟨b, 0, none⟩))] w fun ev w' => ev = .returned (.bool true) ∧ Gro b w w' := by
  refine (as_hit ⟨e, 0, none⟩ ⟨b, 0, none⟩ old w hg (heap_cell hb (j := 0) rfl) (heap_free hb 0)).mono ?_
  rintro ev w' ⟨h1, rfl⟩
  have hB : ∀ (W : World) (o : Obj), Gro b w W → Gro b w (W.alloc o) := fun W o h => gro_chain h ((Below.refl _ _).alloc (Nat.le_refl _) o)
  exact ⟨h1, gro_set (hB _ _ (hB _ _ (hB _ _ (hB _ _ (World.grownBy.refl _ _))))) 0 _⟩


/-- The same, and where the rows lie. -/
def ReadPost2 (s : List UInt8) (w : World) (e : Ending) (w' : World) : Prop :=
  ∃ (vp ve : Value), e = .returned (.tuple #[NodV (readN s).1 vp ve, .int .i64 (readN s).2]) ∧ NodRow w' (readN s).1 vp ve ∧ ((∀ j, vp.ownBlock = some j → w.heap.size ≤ j) ∧ (∀ j, ve.ownBlock = some j → w.heap.size ≤ j)) ∧ Below w.heap.size w w'

set_option maxHeartbeats 4000000 in
set_option maxRecDepth 100000 in
theorem pread2_walk (s : List UInt8) (w : World) (hT : ErrT w) (hs : s.length ≤ 1000000) :
    Calls Tryz.prog 56 #[S s] w (ReadPost2 s w) := by
  have HT := Lib.hid hT
  clear hT
  obtain ⟨w1, hw1, hb1, hz1⟩ : ∃ w1, w1 = w.alloc (.cells #[.int .i64 0, .string ⟨#[]⟩, .slice none 0 0, .slice none 0 0] 36) ∧ Below w.heap.size w w1 ∧ w1.heap[w.heap.size]? = some (.cells #[.int .i64 0, .string ⟨#[]⟩, .slice none 0 0, .slice none 0 0] 36 (0, 0)) :=
    ⟨_, rfl, (Below.refl _ _).alloc (Nat.le_refl _) _, heap_alloc_new _ _⟩
  obtain ⟨w2, hw2, hb2, hz2, hg2, hsz⟩ : ∃ w2, w2 = w1.alloc (.cells #[S s, .nilIface] 131) ∧ Below w1.heap.size w1 w2 ∧ w2.heap[w.heap.size]? = some (.cells #[.int .i64 0, .string ⟨#[]⟩, .slice none 0 0, .slice none 0 0] 36 (0, 0)) ∧ RdAt w2 w1.heap.size s true ∧ w.heap.size < w1.heap.size :=
    ⟨_, rfl, (Below.refl _ _).alloc (Nat.le_refl _) _, (((Below.refl _ _).alloc (Nat.le_refl _) _).block _ (heap_lt hz1)).trans hz1, ⟨.nilIface, heap_alloc_new _ _, .inl ⟨rfl, rfl⟩⟩, heap_lt hz1⟩
  have hB2 := below_chain hb1 hb2 hb1.size
  have CN := node_walk w1.heap.size s w2 hg2 hs
  have hgs : w1.heap.size < w2.heap.size := by obtain ⟨_, h1, _⟩ := hg2; exact heap_lt h1
  clear hb1 hb2 hg2
  go_enter Tryz.func56, Tryz.ntmps56
  go_upto_region 1 with fail
  rw [← hw1]
  clear hw1
  go_wp2_with fail
  rw [← hw2]
  refine CN.mono ?_
  rintro e w3 ⟨n, vp, ve, ev, ok, rfl, hev, hrow, hvb, hg3, hyes, hno⟩
  have hz3 := (hg3.block _ (heap_lt hz2) (by simp; omega)).trans hz2
  have hB3 : Below w.heap.size w w3 := hB2.trans (gro_below hg3 (by omega) (by omega))
  obtain ⟨va, vc, rfl⟩ := row_slice hrow.parts
  obtain ⟨ua, uc, rfl⟩ := row_slice hrow.ents
  obtain ⟨w4, hw4, hn4, hz4, hB4, hb34⟩ : ∃ w4, w4 = w3.alloc (.cells #[.int .i64 n.kind, S n.data, .slice va n.parts.length vc, .slice ua n.ents.length uc] 36) ∧ w4.heap[w3.heap.size]? = some (.cells #[.int .i64 n.kind, S n.data, .slice va n.parts.length vc, .slice ua n.ents.length uc] 36 (0, 0)) ∧ w4.heap[w.heap.size]? = some (.cells #[.int .i64 0, .string ⟨#[]⟩, .slice none 0 0, .slice none 0 0] 36 (0, 0)) ∧ Below w.heap.size w w4 ∧ Below w3.heap.size w3 w4 :=
    ⟨_, rfl, heap_alloc_new _ _, (((Below.refl _ _).alloc (Nat.le_refl _) _).block _ (heap_lt hz3)).trans hz3, hB3.alloc hB3.size _, (Below.refl _ _).alloc (Nat.le_refl _) _⟩
  obtain ⟨w5, hw5, hn5, hz5, ht5, hB5, hb45, hs45⟩ : ∃ w5, w5 = w4.alloc (.cells #[.pointer none] 133) ∧ w5.heap[w3.heap.size]? = some (.cells #[.int .i64 n.kind, S n.data, .slice va n.parts.length vc, .slice ua n.ents.length uc] 36 (0, 0)) ∧ w5.heap[w.heap.size]? = some (.cells #[.int .i64 0, .string ⟨#[]⟩, .slice none 0 0, .slice none 0 0] 36 (0, 0)) ∧ w5.heap[w4.heap.size]? = some (.cells #[.pointer none] 133 (0, 0)) ∧ Below w.heap.size w w5 ∧ Below w4.heap.size w4 w5 ∧ w.heap.size < w4.heap.size :=
    ⟨_, rfl, (((Below.refl _ _).alloc (Nat.le_refl _) _).block _ (heap_lt hn4)).trans hn4, (((Below.refl _ _).alloc (Nat.le_refl _) _).block _ (heap_lt hz4)).trans hz4, heap_alloc_new _ _, hB4.alloc hB4.size _, (Below.refl _ _).alloc (Nat.le_refl _) _, heap_lt hz4⟩
  have hrow5 := (hrow.below hb34).below hb45
  have hT5 := HT.out.below hB5
  have hvz : ∀ j, (Value.slice va n.parts.length vc).ownBlock = some j → w.heap.size ≠ j := fun j hj => by have := hvb.1 j hj; omega
  have hvz2 : ∀ j, (Value.slice ua n.ents.length uc).ownBlock = some j → w.heap.size ≠ j := fun j hj => by have := hvb.2 j hj; omega
  have HVB := Lib.hid (show (∀ j, (Value.slice va n.parts.length vc).ownBlock = some j → w.heap.size ≤ j) ∧ (∀ j, (Value.slice ua n.ents.length uc).ownBlock = some j → w.heap.size ≤ j) from ⟨fun j hj => by have := hvb.1 j hj; omega, fun j hj => by have := hvb.2 j hj; omega⟩)
  clear hvb
  clear CN hg3 hz3 hB3 hz2 hB2 hz1 hz4 hB4 hn4 hrow hb34 hb45
  go_upto_region 2 with fail
  rw [← hw4]
  clear hw4
  go_upto_region 3 with fail
  rw [← hw5]
  clear hw5
  rcases hev with ⟨rfl, rfl⟩ | ⟨rfl, b, rfl⟩
  · have hres := hyes rfl
    obtain ⟨⟨n0, n1, n2, n3⟩, -, -⟩ := box4 hn5
    obtain ⟨⟨c0, c1, c2, c3⟩, ⟨f0, f1, f2, f3⟩, ⟨q0, q1, q2, q3⟩⟩ := box4 hz5
    obtain ⟨w9, hw9, hz9, hB9, hrow9⟩ : ∃ w9, w9 = (((w5.setCell ⟨w.heap.size, 0, none⟩ (.int .i64 n.kind)).setCell ⟨w.heap.size, 1, none⟩ (S n.data)).setCell ⟨w.heap.size, 2, none⟩ (.slice va n.parts.length vc)).setCell ⟨w.heap.size, 3, none⟩ (.slice ua n.ents.length uc) ∧ w9.heap[w.heap.size]? = some (.cells #[.int .i64 n.kind, S n.data, .slice va n.parts.length vc, .slice ua n.ents.length uc] 36 (0, 0)) ∧ Below w.heap.size w w9 ∧ Hid (NodRow w9 n (.slice va n.parts.length vc) (.slice ua n.ents.length uc)) := by
      exact ⟨_, rfl, heap_set_cell (heap_set_cell (heap_set_cell (heap_set_cell hz5 _) _) _) _, below_setT (below_setT (below_setT (below_setT hB5 (Nat.le_refl _) _ _) (Nat.le_refl _) _ _) (Nat.le_refl _) _ _) (Nat.le_refl _) _ _,
        Lib.hid (nod_other (nod_other (nod_other (nod_other hrow5 hvz hvz2 _ _) hvz hvz2 _ _) hvz hvz2 _ _) hvz hvz2 _ _)⟩
    have HRES := Lib.hid hres
    have HB9 := Lib.hid hB9
    clear hn5 hz5 hres hB9 hB5 ht5 hyes hno
    go_wp2_with (go_at_call 81; refine (as_nil _ _).mono ?_; rintro e w6 ⟨rfl, rfl⟩)
    rw [← hw9]
    obtain ⟨⟨x0, x1, x2, x3⟩, -, -⟩ := box4 hz9
    refine bodyPost_ret (v := .tuple #[NodV n (.slice va n.parts.length vc) (.slice ua n.ents.length uc), .int .i64 0]) (by simp [results, Tryz.results56, go_sem, x0, x1, x2, x3]) rfl ?_
    exact ⟨_, _, by rw [HRES.out], by rw [HRES.out]; exact hrow9.out, HVB.out, HB9.out⟩
  · have hres := hno rfl
    have CA := as_walk b w4.heap.size (.pointer none) w5 hT5 ht5
    have HRES := Lib.hid hres
    clear hn5 hres hyes hno hT5 ht5
    go_wp2_with fail
    refine CA.mono ?_
    rintro e w6 ⟨rfl, hg6⟩
    have hz6 := (hg6.block _ (heap_lt hz5) (by simp; omega)).trans hz5
    have hB6 : Below w.heap.size w w6 := hB5.trans (gro_below hg6 (by omega) hB5.size)
    obtain ⟨⟨c0, c1, c2, c3⟩, ⟨f0, f1, f2, f3⟩, ⟨q0, q1, q2, q3⟩⟩ := box4 hz6
    obtain ⟨w9, hw9, hz9, hB9⟩ : ∃ w9, w9 = (((w6.setCell ⟨w.heap.size, 0, none⟩ (.int .i64 0)).setCell ⟨w.heap.size, 1, none⟩ (.string ⟨#[]⟩)).setCell ⟨w.heap.size, 2, none⟩ (.slice none 0 0)).setCell ⟨w.heap.size, 3, none⟩ (.slice none 0 0) ∧ w9.heap[w.heap.size]? = some (.cells #[.int .i64 0, .string ⟨#[]⟩, .slice none 0 0, .slice none 0 0] 36 (0, 0)) ∧ Below w.heap.size w w9 :=
      ⟨_, rfl, heap_set_cell (heap_set_cell (heap_set_cell (heap_set_cell hz6 _) _) _) _, below_setT (below_setT (below_setT (below_setT hB6 (Nat.le_refl _) _ _) (Nat.le_refl _) _ _) (Nat.le_refl _) _ _) (Nat.le_refl _) _ _⟩
    have HB9 := Lib.hid hB9
    clear CA hg6 hz5 hz6 hB9 hB6 hB5
    go_wp2
    rw [← hw9]
    obtain ⟨⟨x0, x1, x2, x3⟩, -, -⟩ := box4 hz9
    refine bodyPost_ret (v := .tuple #[NodV zNod (.slice none 0 0) (.slice none 0 0), .int .i64 2]) (by simp [results, Tryz.results56, go_sem, x0, x1, x2, x3, zNod]) rfl ?_
    exact ⟨_, _, by rw [HRES.out], by rw [HRES.out]; exact ⟨Row.nil _ _, Row.nil _ _⟩, ⟨(fun j hj => by simp [Value.ownBlock] at hj), (fun j hj => by simp [Value.ownBlock] at hj)⟩, HB9.out⟩
theorem pread11_walk (s : List UInt8) (w : World) (hT : ErrT w) (hs : s.length ≤ 1000000) :
    Calls Tryz.prog 56 #[S s] w (ReadPost s w) := by
  refine (pread2_walk s w hT hs).mono ?_
  rintro e w' ⟨vp, ve, rfl, h, -, hb⟩
  exact ⟨vp, ve, rfl, h, hb⟩
end Go.Proofs.YtaompdnnkfmjhaaGreatDoor

namespace Go.Proofs.YtaompdnnkfmjhaaGreatDoor
open Go.RowKit

theorem rest1_start {l : List (List UInt8)} {L : List Value} (h : L.take l.length = l.map S) (b : Nat) : (L.drop b).take (l.length - b) = (l.drop b).map S := by
  rw [List.map_drop, ← h, List.drop_take]
theorem head1_start {l : List (List UInt8)} {L : List Value} (h : L.take l.length = l.map S) {b : Nat} (hb : b ≤ l.length) : L.take b = (l.take b).map S := by
  rw [List.map_take, ← h, List.take_take, Nat.min_eq_left hb]
theorem rest1_at {l : List (List UInt8)} {L : List Value} {b : Nat} (hb : b < l.length) (h : (L.drop b).take (l.length - b) = (l.drop b).map S) : L[b]? = some (S l[b]) := by
  have h2 : ((L.drop b).take (l.length - b))[0]? = some (S l[b]) := by rw [h]; simp [hb]
  rw [List.getElem?_take_of_lt (by omega), List.getElem?_drop] at h2
  simpa using h2
theorem rest1_on {l : List (List UInt8)} {L : List Value} {b : Nat} (h : (L.drop b).take (l.length - b) = (l.drop b).map S) : (L.drop (b + 1)).take (l.length - (b + 1)) = (l.drop (b + 1)).map S := by
  have h2 := congrArg (List.drop 1) h
  rw [List.drop_take, List.drop_drop, ← List.map_drop, List.drop_drop] at h2
  rw [← h2]
  congr 1
section
variable {P : Program}
theorem wpList_clear_1 {w : World} {ops : Array Oper} {rest : List Oper} {o : Oper} {a : Act} {Q : Exit → Act → World → Prop} (hgd : o.guard = none) (s : Operand) (t : TypeId)
    (ho : o.op = .call { callee := .builtin .clear, args := #[s], argTypes := #[t] }) (e : TypeId) (i0 : TypeInfo) (z : Value) (ht : P.underlying t = some (.slice e)) (hi : P.info? e = some i0) (hz : i0.zero = some z) (hk : z.cells.size = 1) (h1 : ∀ v ∈ z.cells, v.oneCell' = true)
    (g off n c : Nat) (hs : a.eval s = .slice (some ⟨g, off, none⟩) n c) (cur : List Value) (et : TypeId) (hg : w.heap[g]? = some (.cells cur.toArray et (0, 0))) (hfit : off + n ≤ cur.length) (B : Nat) (w0 : World) (hb : Below B w0 w) (hBg : B ≤ g)
    (h : ∀ w' zs, zs.length = n → Hid (w'.heap[g]? = some (.cells (splice cur off zs).toArray et (0, 0))) → Below B w0 w' → wpList P ops Q rest (a.put o.dst (.tuple #[])) w') :
    wpList P ops Q (o :: rest) a w :=
  wpList_clear_k 1 hgd s t ho e i0 z ht hi hz hk h1 g off n c hs cur et hg (by omega) (by decide) B w0 hb hBg (fun w' zs hl => h w' zs (by omega))
end

theorem delInfoStr : (Tryz.prog.info? 9).map (fun i => (i.zero, i.size, i.bytes)) = some (some (.string ⟨#[]⟩), 1, 16) := by kernel_rfl

set_option maxHeartbeats 2000000 in
set_option maxRecDepth 100000 in
theorem idxStr_walk (g0 : Nat) (caps : Array Value) (p : (List UInt8) → Bool) (a : Option Addr) (c : Nat) (l : List (List UInt8)) (w : World) (hr : StrRow w (.slice a l.length c) l) (hcnt : l.length ≤ 1100000)
    (hen : ∀ args w, (callFunc g0 args).run Tryz.prog w = .ok (.enter g0 args) w)
    (hp : ∀ x w', Below w.heap.size w w' → Calls Tryz.prog g0 (#[S x] ++ caps) w' fun e w'' => e = .returned (.bool (p x)) ∧ Below w'.heap.size w' w'') :
    Calls Tryz.prog 93 #[.slice a l.length c, .func (.func g0) #[] caps] w fun e w' => e = .returned (.int .i64 (idxP p l)) ∧ Below w.heap.size w w' := by
  obtain ⟨a', c', hv, hc, hm, hx⟩ := hr
  cases hv
  have HX := Lib.hid hx
  have HP := Lib.hid hp
  clear hx hp
  go_enter Tryz.func93, Tryz.ntmps93
  go_wp2
  go_loopw [8] (fun i wr => ∃ k : Nat, k ≤ l.length ∧ i = .int .i64 k ∧ (∀ x ∈ l.take k, p x = false) ∧ Below w.heap.size w wr) (fun i _ => l.length - (intOf i).toNat)
  case atStart => exact ⟨0, Nat.zero_le _, rfl, by simp, Below.refl _ _⟩
  case round =>
    obtain ⟨k, hk, rfl, hall, hB⟩ := hrel
    have HALL := Lib.hid hall
    have HB := Lib.hid hB
    clear hall
    by_cases h1 : k < l.length
    · have hx := HX.out
      rcases hx with hx | ⟨b, o, rfl, hx⟩
      · exfalso; rw [hx] at h1; simp at h1
      have hx1 := str_cell hx h1
      have HE := Lib.hid (fun h => idxP_at h1 HALL.out h)
      have HN := Lib.hid (fun h => none_step h1 HALL.out h)
      clear hx
      generalize l[k] = y at *
      have CL := fun w' h => HP.out y w' h
      obtain ⟨qb, hqb⟩ : ∃ qb, p y = qb := ⟨_, rfl⟩
      rw [hqb] at CL HE HN
      clear hqb
      have hc1 := cell_below hB hx1; clear hx1
      have h1' : (k : Int) < (l.length : Int) := by omega
      have CL2 := CL wr hB
      clear hB CL
      cases qb with
      | true =>
        have HF := Lib.hid (HE.out rfl)
        clear HE HN
        go_wp2_with (refine CL2.mono ?_; rintro e w1 ⟨rfl, hb1⟩)
        go_ret
        exact ⟨by rw [HF.out]; rfl, below_chain HB.out hb1 HB.out.size⟩
      | false =>
        have HF := Lib.hid (HN.out rfl)
        clear HE HN
        go_wp2_with (refine CL2.mono ?_; rintro e w1 ⟨rfl, hb1⟩)
        go_roundw
        case rel => exact ⟨k + 1, by omega, by go_num, HF.out, below_chain HB.out hb1 HB.out.size⟩
        case measure => simp [intOf]; omega
    · have h1' : ¬ (k : Int) < (l.length : Int) := by omega
      have HF := Lib.hid (show idxP p l = -1 from idxP_none (by have := HALL.out; rwa [List.take_of_length_le (by omega)] at this))
      go_wp2
      go_ret
      exact ⟨by rw [HF.out]; rfl, HB.out⟩

set_option maxHeartbeats 4000000 in
set_option maxRecDepth 100000 in
theorem delStr_walk (g0 : Nat) (caps : Array Value) (p : (List UInt8) → Bool) (B : Nat) (v : Value) (l : List (List UInt8)) (w : World) (hown : w.ownsRow B 9 1 v l.length (l.map S)) (hcnt : l.length ≤ 1100000) (hB : B ≤ w.heap.size)
    (hen : ∀ args w, (callFunc g0 args).run Tryz.prog w = .ok (.enter g0 args) w) (hrg : StrRow w v l)
    (hp : ∀ x w', Below B w w' → Calls Tryz.prog g0 (#[S x] ++ caps) w' fun e w'' => e = .returned (.bool (p x)) ∧ Below w'.heap.size w' w'') :
    Calls Tryz.prog 74 #[v, .func (.func g0) #[] caps] w fun e w' => ∃ v', e = .returned v' ∧ w'.ownsRow B 9 1 v' (l.filter (fun x => !p x)).length ((l.filter (fun x => !p x)).map S) ∧ Below B w w' := by
  obtain ⟨i0, hi0, hz0, hz1, hz2⟩ := info_parts delInfoStr
  obtain ⟨av, cv, rfl, _, hcm, hxx⟩ := hrg
  have CI := idxStr_walk g0 caps p av cv l w ⟨av, cv, rfl, by assumption, hcm, hxx⟩ hcnt hen (fun x w' h => hp x w' (h.mono hB))
  have HOWN := Lib.hid hown
  have HP := Lib.hid hp
  have hown2 := hown.2
  clear hxx hown hp
  rcases idxP_cases p l with ⟨e1, hall⟩ | ⟨k0, hk0, e1, hall, hpk⟩
  · have HF := Lib.hid (filter_all hall)
    rw [e1] at CI
    clear hall e1 hown2
    go_enter Tryz.func74, Tryz.ntmps74
    go_wp2_with (go_at_call 93; refine (CI).mono ?_; rintro e w1 ⟨rfl, hb1⟩)
    go_ret
    refine ⟨_, rfl, ?_, hb1.mono hB⟩
    rw [HF.out]
    obtain ⟨hl, ho⟩ := HOWN.out
    refine ⟨hl, ?_⟩
    rcases ho with ⟨h1, h2⟩ | ⟨g, cap, cur, h1, h2, h3, h4⟩
    · exact .inl ⟨h1, h2⟩
    · refine .inr ⟨g, cap, cur, h1, h2, (hb1.block g ?_).trans h3, h4⟩
      exact (HOWN.out.lt g (by rw [h1]; rfl)).2
  · rw [e1] at CI
    rcases hown2 with ⟨h1, h2⟩ | ⟨g, cap, cur0, hv, hbg, hg, hnc, hcapm, hcs, htake⟩
    · exfalso; omega
    cases hv
    rw [Nat.mul_one] at hcs htake
    have hgw : g < w.heap.size := (HOWN.out.lt g rfl).2
    have hcl0 := HOWN.out.1
    have HK0 := Lib.hid (show (l.take (k0 + 1)).filter (fun x => !p x) = l.take k0 by
      rw [filter_step hk0, hpk, filter_all hall]; simp)
    have HD0 := Lib.hid (rest1_start htake (k0 + 1))
    have HT0 := Lib.hid (head1_start htake (b := k0) (by omega))
    clear hall hpk e1 htake HOWN hcl0
    have hkm : ((k0 : Int) == -1) = false := by rw [beq_eq_false_iff_ne]; omega
    go_enter Tryz.func74, Tryz.ntmps74
    go_wp2_with (go_at_call 93; refine (CI).mono ?_; rintro e w1 ⟨rfl, hb1⟩)
    have hg1 := (hb1.block g hgw).trans hg
    have hB1 := hb1.mono hB
    clear hb1 hg CI
    go_loopw [5, 6] (fun i j wr => ∃ (a b : Nat) (cur : Array Value), a < b ∧ b ≤ l.length ∧ i = .int .i64 a ∧ j = .int .i64 b ∧ wr.heap[g]? = some (.cells cur 9 (0, 0)) ∧ cur.size = cv ∧ ((l.take b).filter (fun x => !p x)).length = a ∧ cur.toList.take (a) = ((l.take b).filter (fun x => !p x)).map S ∧ (cur.toList.drop (b)).take ((l.length - b)) = (l.drop b).map S ∧ Below B w wr) (fun _ j _ => l.length - (intOf j).toNat)
    case atStart => exact ⟨k0, k0 + 1, cur0, by omega, by omega, by go_num, by go_num, hg1, hcs, by rw [HK0.out, List.length_take]; omega, by rw [HK0.out]; exact HT0.out, HD0.out, hB1⟩
    case round =>
      obtain ⟨a1, b1, cur, hab, hbl, rfl, rfl, hg2, hcs2, hfl, hft, hfd, hBw⟩ := hrel
      have HFL := Lib.hid hfl
      have HFT := Lib.hid hft
      have HFD := Lib.hid hfd
      have hszw := hBw.size
      have hgl := heap_lt hg2
      have hB2 : B ≤ wr.heap.size := by omega
      by_cases h1 : b1 < l.length
      · have hcel := rest1_at h1 hfd
        have HON := Lib.hid (rest1_on hfd)
        have HST := Lib.hid (filter_step (p := p) h1)
        clear hfl hft hfd
        generalize l[b1] = y at *
        obtain ⟨qb, hqb⟩ : ∃ qb, p y = qb := ⟨_, rfl⟩
        have CL := fun w' h => HP.out y w' h
        rw [hqb] at CL HST
        clear hqb
        have hc1 := heap_cell hg2 (j := b1) (v := S y) (by simpa using hcel)
        have CL2 := CL wr hBw
        clear CL hcel
        have h1' : (b1 : Int) < (l.length : Int) := by omega
        cases qb with
        | true =>
          have HS := Lib.hid (show (l.take (b1 + 1)).filter (fun x => !p x) = (l.take b1).filter (fun x => !p x) by rw [HST.out]; simp)
          clear HST
          go_wp2_with (refine CL2.mono ?_; rintro e w2 ⟨rfl, hb2⟩)
          have hg3 := heap_later hg2 hb2 (by omega)
          have hb3 : Below B w w2 := hBw.trans (hb2.mono (by omega))
          clear hb2
          go_roundw
          case rel => exact ⟨a1, b1 + 1, cur, by omega, by omega, rfl, by go_num, hg3, hcs2, by rw [HS.out]; exact HFL.out, by rw [HS.out]; exact HFT.out, HON.out, hb3⟩
          case measure => simp [intOf]; omega
        | false =>
          have HS := Lib.hid (show (l.take (b1 + 1)).filter (fun x => !p x) = (l.take b1).filter (fun x => !p x) ++ [y] by rw [HST.out]; simp)
          clear HST
          have hab2 : (a1 : Int) < (l.length : Int) := by omega
          go_wp2_with (refine CL2.mono ?_; rintro e w2 ⟨rfl, hb2⟩; have hg3 := heap_later hg2 hb2 (by omega); have hf1 := heap_free hg3; obtain ⟨u1, hu1⟩ := heap_has hg3 (j := a1) (by omega))
          have hb3 : Below B w w2 := hBw.trans (hb2.mono (by omega))
          clear hb2
          go_roundw
          case rel =>
            have hsp : (cur.setIfInBounds a1 (S y)).toList = splice cur.toList a1 [S y] := by
              have := setAll_splice [S y] cur a1 (by simp; omega); simpa [setAll] using this
            refine ⟨a1 + 1, b1 + 1, cur.setIfInBounds a1 (S y), by omega, by omega, by go_num, by go_num, heap_set_cell hg3 _, by simpa using hcs2, ?_, ?_, ?_, hb3.setCell hbg _⟩
            · rw [HS.out, List.length_append, HFL.out]; rfl
            · rw [HS.out, List.map_append, ← HFT.out, hsp, show a1 + 1 = a1 + ([S y] : List Value).length from rfl, take_splice (by simp; omega)]; simp
            · rw [hsp, drop_splice (by simp; omega) (by simp; omega)]; exact HON.out
          case measure => simp [intOf]; omega
      · obtain rfl : b1 = l.length := by omega
        have h1' : ¬ (l.length : Int) < (l.length : Int) := by omega
        rw [List.take_of_length_le (Nat.le_refl _)] at hfl hft
        have HFL := Lib.hid hfl
        have HFT := Lib.hid hft
        clear hfl hft hfd
        have hcv : ¬ cv = a1 := by omega
        have hab2 : (a1 : Int) ≤ (l.length : Int) := by omega
        have HG2 := Lib.hid (show wr.heap[g]? = some (.cells cur.toList.toArray 9 (0, 0)) by simpa using hg2)
        have HFIT := Lib.hid (show a1 + (l.length - a1) ≤ cur.toList.length by simp; omega)
        have HZ1 := Lib.hid (show ∀ v ∈ (.string ⟨#[]⟩ : Value).cells, v.oneCell' = true by decide)
        have HZ0 := Lib.hid (show (.string ⟨#[]⟩ : Value).cells.size = 1 by rfl)
        go_wp2_with (with_reducible refine wpList_clear_1 rfl (.tmp 38) 23 rfl 9 i0 (.string ⟨#[]⟩) Tryz.underlying23 hi0 hz0 HZ0.out HZ1.out g a1 (l.length - a1) (cv - a1) rfl cur.toList 9 HG2.out HFIT.out B w hBw hbg ?_)
        intro w2 zs hzl hg3 hb3
        go_wp2
        go_ret
        refine ⟨_, rfl, ⟨by simp, .inr ⟨g, cv, _, by rw [HFL.out]; rfl, hbg, hg3.out, ?_, hcm, ?_, ?_⟩⟩, hb3⟩
        · rw [HFL.out]; omega
        · rw [List.size_toArray, length_splice _ _ _ (by simp; omega)]; simpa using hcs2
        · rw [Nat.mul_one, HFL.out, List.toList_toArray, ← HFT.out]
          unfold splice
          rw [List.take_append_of_le_length (by simp; omega), List.take_take, Nat.min_self]
end Go.Proofs.YtaompdnnkfmjhaaGreatDoor
