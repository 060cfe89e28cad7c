/- GcDoes: which collections can be, which are the same, and collections that begin, that are told of a key, and that go on, are the document's, and stay fit. No condition. -/
import Derived.Test.YtengciicdnkgaaaGreatDoorCards
import Derived.Test.YtengciicdnkgaaaGreatDoorTie
import Derived.Test.YtengciicdnkgaaaGreatDoorLaw20D
import Derived.Test.YtengciicdnkgaaaGreatDoorJArg
import Derived.Test.YtengciicdnkgaaaGreatDoorLaidErr11
import Derived.ProofKit
import Derived.OpenShut
import Derived.ShutString
import Derived.ChangeOld
import Derived.LaidMore
import Derived.Lay
import Derived.SevenTiedAt
import Derived.Deep.DeepHandedRow
namespace Go.Proofs.YtengciicdnkgaaaGreatDoor.gcDoes
open Go.ChangeShapes Go.WideShapes Go.ChangeAt Go.RowKit
open Go.ChangeMaps (open_string shut_string)

theorem own : ownKnob Tryz.prog.godebug = none := by kernel_rfl
theorem laidOut : laidOutB Tryz.prog = true := by kernel_rfl

set_option maxRecDepth 100000 in
theorem lifted (os : Os) (started : os.Started) (H : Type) (enc : TypeId × Value → H) (F : Stop.Interp) :
    ReturnsInHanded {} Tryz.checked os 5 .any ((OpenSpec.ofChange Rows.gcDoesSpec).preRow enc Tryz.prog Tryz.f5 Rows.gcDoesRow.domain false Rows.gcDoesRow.laid) (((OpenSpec.ofChange Rows.gcDoesSpec).at F).post enc Tryz.prog Tryz.f5 false true false false) := by
  refine returnsInHanded_of_row (C := Tryz.checked) (s := OpenSpec.ofChange Rows.gcDoesSpec) own started (by kernel_rfl) Tryz.func5
    (ChangeSpec.witness_shaped (enc := enc) (C := Tryz.checked) (os := os) (s := Rows.gcDoesSpec) (X := fun w _ => laidMetH Tryz.prog Rows.gcDoesRow.laid w) false (laidW11 os) #[.agg #[.bool false, .slice none 0 0, .slice none 0 0], .agg #[.bool false, .slice none 0 0, .slice none 0 0], .slice none 0 0, .slice none 0 0, .string ⟨#[]⟩, .int .i64 0] 8 rfl
      (World.shaped_of_ZipB (by kernel_rfl) (by kernel_rfl)) (by kernel_rfl) (by kernel_rfl) (by kernel_rfl)
      (laidMetH_of_parts (laidMet_nil _ _) (by kernel_rfl))) ?_
  intro W base args ds gs before hval0 hW hc _ hwt hlaid hsh _
  have hval : ∀ (j : Nat) t v, Tryz.f5.params[j]? = some t → args[j]? = some v → Value.okWide Tryz.prog W .any base t v := hval0
  have hW' := hW
  obtain ⟨p, q, hA0, hV, rfl, hfz, hnd⟩ := hW
  have hA : DataW.TrodAll enc Tryz.prog W 0 (fun _ => true) true Tryz.f5.params.toList args.toList ds p := hA0
  rw [Tryz.params5] at hA hval
  obtain ⟨v0, vs0, d0, ds0, pl0, ql0, hargs, rfl, rfl, h0, r0⟩ := trodAll_cons hA
  obtain ⟨v1, vs1, d1, ds1, pl1, ql1, rfl, rfl, rfl, h1, r1⟩ := trodAll_cons r0
  obtain ⟨v2, vs2, d2, ds2, pl2, ql2, rfl, rfl, rfl, h2, r2⟩ := trodAll_cons r1
  obtain ⟨v3, vs3, d3, ds3, pl3, ql3, rfl, rfl, rfl, h3, r3⟩ := trodAll_cons r2
  obtain ⟨v4, vs4, d4, ds4, pl4, ql4, rfl, rfl, rfl, h4, r4⟩ := trodAll_cons r3
  obtain ⟨v5, vs5, d5, ds5, pl5, ql5, rfl, rfl, rfl, h5, r5⟩ := trodAll_cons r4
  obtain ⟨rfl, rfl, rfl⟩ := trodAll_nil r5
  obtain rfl : args = #[v0, v1, v2, v3, v4, v5] := by cases args; simp_all
  obtain ⟨rfl, rfl⟩ := trodVars_none hV
  have k0 := h0
  have lt0 : ∀ x ∈ pl0, x.block < W.heap.size := by obtain ⟨m, hm⟩ := k0; exact DataW.trod_lt m _ _ _ hm
  obtain ⟨on0, qv0, mv0, q0, m0, e0, hq0, hm0, hwg0⟩ := gc_of_trod (hval 0 24 v0 rfl rfl) h0
  have k1 := h1
  have lt1 : ∀ x ∈ pl1, x.block < W.heap.size := by obtain ⟨m, hm⟩ := k1; exact DataW.trod_lt m _ _ _ hm
  obtain ⟨on1, qv1, mv1, q1, m1, e1, hq1, hm1, hwg1⟩ := gc_of_trod (hval 1 24 v1 rfl rfl) h1
  have k2 := h2
  have lt2 : ∀ x ∈ pl2, x.block < W.heap.size := by obtain ⟨m, hm⟩ := k2; exact DataW.trod_lt m _ _ _ hm
  obtain ⟨o2, ho2, hwo2⟩ := objs_of_val (hval 2 25 v2 rfl rfl) h2
  have k3 := h3
  have lt3 : ∀ x ∈ pl3, x.block < W.heap.size := by obtain ⟨m, hm⟩ := k3; exact DataW.trod_lt m _ _ _ hm
  obtain ⟨l3, hl3, hwl3⟩ := strs_of_val (hval 3 22 v3 rfl rfl) h3
  have k4 := h4
  have lt4 : ∀ x ∈ pl4, x.block < W.heap.size := by obtain ⟨m, hm⟩ := k4; exact DataW.trod_lt m _ _ _ hm
  obtain ⟨sb4, e4, _, _, _⟩ := open_string Tryz.underlying9 (hval 4 9 v4 rfl rfl) h4
  obtain ⟨s4, hs4⟩ : ∃ s, s = sb4.data.toList := ⟨_, rfl⟩
  have es4 : v4 = S s4 := by rw [e4, hs4]
  have k5 := h5
  have lt5 : ∀ x ∈ pl5, x.block < W.heap.size := by obtain ⟨m, hm⟩ := k5; exact DataW.trod_lt m _ _ _ hm
  obtain ⟨n5, e5⟩ := okWide_int Tryz.underlying3 (hval 5 3 v5 rfl rfl)
  have kn5 : -9223372036854775808 ≤ n5 ∧ n5 ≤ 9223372036854775807 := by
    have h7 := hval 5 3 v5 rfl rfl
    rw [e5] at h7
    simp [Value.okWide, Tryz.underlying3, Cell.okWide, Cell.ok, IntKind.has, IntKind.min, IntKind.max, IntKind.bits, IntKind.signed] at h7
    omega
  have h9 := hwt
  rw [Tryz.params5] at h9
  have h8 : ((d0.weights Tryz.checked.prog 24 ++ (d1.weights Tryz.checked.prog 24 ++ (d2.weights Tryz.checked.prog 25 ++ (d3.weights Tryz.checked.prog 22 ++ (d4.weights Tryz.checked.prog 9 ++ (d5.weights Tryz.checked.prog 3 ++ [])))))).all (· ≤ reachBytes)) = true := by simpa [DataW.weightsEach] using h9
  simp only [List.all_append, Bool.and_eq_true] at h8
  have hg0 := hwg0 reachBytes h8.1
  unfold reachBytes at hg0
  have hg1 := hwg1 reachBytes h8.2.1
  unfold reachBytes at hg1
  have hw2 := hwo2 reachBytes h8.2.2.1
  unfold reachBytes at hw2
  have hb3 := hwl3 reachBytes h8.2.2.2.1
  unfold reachBytes at hb3
  clear h9 h8
  have hT : ErrT W := errT_of_laid hlaid
  clear hA0 hval0
  have walk : Calls Tryz.prog 5 #[v0, v1, v2, v3, v4, v5] W fun e w' => e = .returned (.bool true) ∧ Below W.heap.size W w' := by
    rw [e0, e1, es4, e5]; exact gdoes20_walk on0 on1 qv0 mv0 qv1 mv1 v2 v3 q0 m0 q1 m1 o2 l3 s4 n5 W hq0 hm0 hq1 hm1 ho2 hl3 hT (by omega) (by omega) (by omega) (by omega) (by omega) (fun x hx => by have := hw2.2 x hx; omega)
  refine walk.mono fun e W' ⟨he, bel⟩ => ?_
  subst he
  exact ⟨_, rfl, _, _, _, [], _, [], hW', trodAll_mk1 (shut_bool Tryz.underlying4 _), (trodAll_cons_mk (Below.trod laidOut (by kernel_rfl) (of_decide_eq_true (by kernel_rfl)) k0 bel lt0) (trodAll_cons_mk (Below.trod laidOut (by kernel_rfl) (of_decide_eq_true (by kernel_rfl)) k1 bel lt1) (trodAll_cons_mk (Below.trod laidOut (by kernel_rfl) (of_decide_eq_true (by kernel_rfl)) k2 bel lt2) (trodAll_cons_mk (Below.trod laidOut (by kernel_rfl) (of_decide_eq_true (by kernel_rfl)) k3 bel lt3) (trodAll_cons_mk (Below.trod laidOut (by kernel_rfl) (of_decide_eq_true (by kernel_rfl)) k4 bel lt4) (trodAll_cons_mk (Below.trod laidOut (by kernel_rfl) (of_decide_eq_true (by kernel_rfl)) k5 bel lt5) trodAll_mk0)))))), rfl, bel.frame _, fun h => by cases h⟩

theorem said : Rows.GcDoesSaid :=
  OpenClaim.holds_of_cond 5 Tryz.f5 rfl rfl rfl rfl rfl rfl rfl ⟨rfl, rfl, rfl, rfl, rfl⟩ rfl rfl rfl rfl rfl (by kernel_rfl) Tryz.func5 (by kernel_rfl)
    (of_decide_eq_true (by kernel_rfl)) (by unfold Func.isWrapper; first | (rw [if_pos (by decide +kernel)]; kernel_rfl) | (rw [if_neg (by decide +kernel)]; exact ⟨rfl, rfl⟩))
    (fun os started H enc _ F => by rw [OpenClaim.pre_eq_preRow]; exact lifted os started H enc F)

theorem plain (f : FuncId) (fn : Func) (hf : Tryz.pinned.checked.prog.funcNamed "silo/silolaw20.GcDoes" = some f) (hfn : Tryz.pinned.checked.prog.funcs[f]? = some fn) :
    true = Tryz.pinned.checked.prog.looks [] ∧ ∀ (j : Nat) t, fn.params[j]? = some t → Tryz.pinned.checked.prog.wantsStandIn t = false := by
  obtain rfl : f = 5 := Option.some.inj ((show Tryz.prog.funcNamed "silo/silolaw20.GcDoes" = some 5 by kernel_rfl).symm.trans hf) |>.symm
  obtain rfl : fn = Tryz.f5 := (Option.some.inj (Tryz.func5.symm.trans hfn)).symm
  refine ⟨by kernel_rfl, fun j t ht => ?_⟩
  rw [Tryz.params5] at ht
  have hm : t ∈ [24, 24, 25, 22, 9, 3] := by have := Array.mem_of_getElem? ht; simpa using this
  have hall : ([24, 24, 25, 22, 9, 3].all fun u => !Tryz.prog.wantsStandIn u) = true := by kernel_rfl
  exact (show Tryz.prog.wantsStandIn t = false by simpa using List.all_eq_true.1 hall t hm)

/-- The statement. -/
theorem card : Rows.GcDoesCardSaid :=
  Claim7.holds_tied_plain_at .later [] _ _ _ _ said (fun _ h => by cases h) (by kernel_rfl) (fun _ h => by cases h) gcDoes_row_tie rfl ⟨rfl, rfl⟩ (by kernel_rfl) rfl plain (by kernel_rfl)
end Go.Proofs.YtengciicdnkgaaaGreatDoor.gcDoes
