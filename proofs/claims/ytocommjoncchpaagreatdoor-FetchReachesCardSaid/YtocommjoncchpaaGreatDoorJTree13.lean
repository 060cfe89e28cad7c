/- fetch.Tree where nothing is below: a load that fails, a directory without entries. slices.IndexFunc and slices.ContainsFunc, at silo/api.Object; the closure by its contract. -/
import Derived.Test.YtocommjoncchpaaGreatDoorLoad13
import Derived.Test.YtocommjoncchpaaGreatDoorJRowG
import Derived.Test.YtocommjoncchpaaGreatDoorJRange2
namespace Go.Proofs.YtocommjoncchpaaGreatDoor
open Go.RowKit

/-- The numbers in the order in which they are tried. -/
def numsL : List Int := [5, 11, 2, 10, 8, 9, 4]

set_option maxHeartbeats 2000000 in
set_option maxRecDepth 100000 in
theorem fnumber_walk (b : Nat) (c : Int) (w : World) (h1 : w.cell? ⟨b, 0, none⟩ = some (.int .i64 c)) (hc : c ∈ numsL) :
    Calls Tryz.prog 17 #[.iface 93 (.pointer (some ⟨b, 0, none⟩))] w fun e w' => e = .returned (.int .i64 c) ∧ Below w.heap.size w w' := by
  obtain ⟨w1, hw1, HB1, hz⟩ : ∃ w1, w1 = w.alloc (.cells #[.int .i64 5, .int .i64 11, .int .i64 2, .int .i64 10, .int .i64 8, .int .i64 9, .int .i64 4] 26) ∧ Hid (Below w.heap.size w w1) ∧ w1.heap[w.heap.size]? = some (.cells #[.int .i64 5, .int .i64 11, .int .i64 2, .int .i64 10, .int .i64 8, .int .i64 9, .int .i64 4] 26 (0, 0)) :=
    ⟨_, rfl, Lib.hid ((Below.refl _ _).alloc (Nat.le_refl _) _), heap_alloc_new _ _⟩
  have HC := Lib.hid hc
  have HCELL : ∀ (k : Nat) (hk : k < numsL.length), w1.cell? ⟨w.heap.size, k, none⟩ = some (.int .i64 numsL[k]) := fun k hk => by
    refine heap_cell hz (j := k) ?_
    match k, hk with
    | 0, _ => rfl
    | 1, _ => rfl
    | 2, _ => rfl
    | 3, _ => rfl
    | 4, _ => rfl
    | 5, _ => rfl
    | 6, _ => rfl
  have HCL := Lib.hid HCELL
  have c0 := cell_below HB1.out h1
  have C := fun t => is_fault b c t w1 c0
  clear h1 hz hc HCELL
  go_enter Tryz.func17, Tryz.ntmps17
  go_upto_region 2 with fail
  rw [← hw1]
  clear hw1
  go_loopw [7] (fun i wr => ∃ k : Nat, k ≤ numsL.length ∧ i = .int .i64 k ∧ wr = w1 ∧ ∀ j (hj : j < k) (hk : j < numsL.length), numsL[j] ≠ c) (fun i _ => numsL.length - (intOf i).toNat)
  case atStart => exact ⟨0, Nat.zero_le _, rfl, rfl, fun j hj => by omega⟩
  case round =>
    obtain ⟨k, hk, rfl, rfl, hall⟩ := hrel
    have HALL := Lib.hid hall
    have hl7 : numsL.length = 7 := rfl
    clear hall
    by_cases h2 : k < numsL.length
    · have h2' : (k : Int) < 7 := by omega
      have hc2 := HCL.out k h2
      have HK := Lib.hid (show numsL[k] = numsL[k] from rfl)
      generalize hy : numsL[k] = y at *
      have HY := Lib.hid hy
      clear hy HK
      have C2 := C y
      by_cases hcy : c = y
      · rw [show (c == y) = true by rw [beq_iff_eq]; exact hcy] at C2
        have HCY := Lib.hid hcy
        clear hcy C
        go_wp2_with fail
        refine C2.mono ?_
        rintro e w2 ⟨rfl, rfl⟩
        clear C2
        go_wp2
        go_ret
        exact ⟨by rw [HCY.out]; rfl, HB1.out⟩
      · rw [show (c == y) = false by rw [beq_eq_false_iff_ne]; exact hcy] at C2
        have HCY := Lib.hid hcy
        clear hcy C
        go_wp2_with fail
        refine C2.mono ?_
        rintro e w2 ⟨rfl, rfl⟩
        clear C2
        go_wp2
        go_roundw
        case rel =>
          refine ⟨k + 1, by omega, by go_num, by first | trivial | rfl, fun j hj hk2 => ?_⟩
          by_cases hjk : j = k
          · subst hjk
            intro h8
            exact HCY.out (by rw [← HY.out]; exact h8.symm)
          · exact HALL.out j (by omega) hk2
        case measure => simp [intOf]; omega
    · exfalso
      obtain ⟨j, hj, hjc⟩ := List.getElem_of_mem HC.out
      exact HALL.out j (by omega) hj hjc

/-- A load that fails. -/
theorem loadC_mem {o : List Snp} {key : List UInt8} {kind : Int} (h : loadC o key kind ≠ 0) : loadC o key kind ∈ numsL := by
  unfold loadC at h ⊢
  split
  · decide
  · split
    · decide
    · split
      · decide
      · split
        · decide
        · rename_i h1 h2 h3 h4
          exfalso
          rw [if_neg h1, if_neg h2, if_neg h3, if_neg h4] at h
          exact h rfl

set_option maxHeartbeats 4000000 in
set_option maxRecDepth 100000 in
/-- A directory that cannot be loaded, or that has no entries. -/
theorem dir0_walk (b : Nat) (la : Option Addr) (lc : Nat) (ov sv : Value) (o : List Snp) (key : List UInt8) (path : List UInt8) (w : World)
    (hf : w.heap[b]? = some (.cells #[.slice la o.length lc, ov, sv] 45 (0, 0))) (ho : SnpRow w (.slice la o.length lc) o) (hT : ErrT w) (hup : upS (namesR o)) (hol : o.length ≤ 1100000) (hraw : ∀ x ∈ o, x.2.length ≤ 1000000)
    (hz : loadC o key 3 ≠ 0 ∨ (readN (rootOf (findR o key))).1.ents = []) :
    Calls Tryz.prog 16 #[.pointer (some ⟨b, 0, none⟩), S key, S path] w fun e w' => Below w.heap.size w w' ∧ ((loadC o key 3 = 0 ∧ e = .returned .nilIface) ∨ (loadC o key 3 ≠ 0 ∧ ∃ g, e = .returned (.iface 93 (.pointer (some ⟨g, 0, none⟩))) ∧ w'.cell? ⟨g, 0, none⟩ = some (.int .i64 (loadC o key 3)))) := by
  have C := load_walk b la lc ov sv o key 3 path w hf ho hT hup hol hraw
  have HZ := Lib.hid hz
  clear hf ho hT hraw hz
  unfold LoadPost at C
  generalize loadC o key 3 = lcd at *
  go_enter Tryz.func16, Tryz.ntmps16
  go_wp2_with fail
  refine C.mono ?_
  rintro e w1 ⟨n, vp, ve, ev, rfl, hnr, hb1, hev⟩
  obtain ⟨pa, pc, rfl⟩ := row_slice hnr.parts
  obtain ⟨ua, uc, rfl⟩ := row_slice hnr.ents
  obtain ⟨w2, hw2, HB2, hn2⟩ : ∃ w2, w2 = w1.alloc (.cells #[.int .i64 n.kind, S n.data, .slice pa n.parts.length pc, .slice ua n.ents.length uc] 68) ∧ Hid (Below w.heap.size w w2) ∧ w2.heap[w1.heap.size]? = some (.cells #[.int .i64 n.kind, S n.data, .slice pa n.parts.length pc, .slice ua n.ents.length uc] 68 (0, 0)) :=
    ⟨_, rfl, Lib.hid (hb1.alloc hb1.size _), heap_alloc_new _ _⟩
  rcases hev with ⟨hl0, rfl, hne⟩ | ⟨hl0, g, rfl, hg⟩
  · have hents : n.ents = [] := by
      rcases HZ.out with h | h
      · exact absurd hl0 h
      · rw [hne]; exact h
    have HL0 := Lib.hid hl0
    obtain ⟨⟨z0, z1, z2, z3⟩, -, -⟩ := box4 hn2
    rw [hents, List.length_nil] at z3 hw2
    rw [hents, List.length_nil]
    clear C hnr hb1 hl0 hne hn2 hents
    go_upto_region 2 with fail
    rw [← hw2]
    clear hw2
    go_wp2
    go_loopw [25] (fun i wr => i = .int .i64 0 ∧ wr = w2) (fun i _ => 0)
    case atStart => exact ⟨rfl, rfl⟩
    case round =>
      obtain ⟨rfl, rfl⟩ := hrel
      go_wp2
      go_ret
      exact ⟨HB2.out, .inl ⟨HL0.out, rfl⟩⟩
  · have HL0 := Lib.hid hl0
    have HG2 := Lib.hid (show w2.cell? ⟨g, 0, none⟩ = some (.int .i64 lcd) from heap_cell (by rw [hw2]; exact (Below.heap_alloc _ _ _ (heap_lt hg)).trans hg) (j := 0) rfl)
    clear C hnr hb1 hl0 hg hn2
    go_upto_region 2 with fail
    rw [← hw2]
    clear hw2
    go_wp2
    go_ret
    exact ⟨HB2.out, .inr ⟨HL0.out, g, rfl, HG2.out⟩⟩

set_option maxHeartbeats 4000000 in
set_option maxRecDepth 100000 in
theorem tree0_walk (lv : Value) (o : List Snp) (key : List UInt8) (w : World) (ho : SnpRow w lv o) (hT : ErrT w) (hup : upS (namesR o)) (hol : o.length ≤ 1100000) (hraw : ∀ x ∈ o, x.2.length ≤ 1000000)
    (hz : loadC o key 3 ≠ 0 ∨ (readN (rootOf (findR o key))).1.ents = []) :
    Calls Tryz.prog 8 #[lv, S key] w fun e w' => e = .returned (.tuple #[.slice none 0 0, .int .i64 (loadC o key 3)]) ∧ Below w.heap.size w w' := by
  have HO := Lib.hid ho
  obtain ⟨la, lc, rfl, -⟩ := ho
  obtain ⟨w1, hw1, hb1, hf1⟩ : ∃ w1, w1 = w.alloc (.cells #[.slice la o.length lc, .slice none 0 0, .int .i64 0] 45) ∧ Below w.heap.size w w1 ∧ w1.heap[w.heap.size]? = some (.cells #[.slice la o.length lc, .slice none 0 0, .int .i64 0] 45 (0, 0)) :=
    ⟨_, rfl, (Below.refl _ _).alloc (Nat.le_refl _) _, heap_alloc_new _ _⟩
  have C := dir0_walk w.heap.size la lc _ _ o key [] w1 hf1 (HO.out.below hb1) (hT.below hb1) hup hol hraw hz
  have HB1 := Lib.hid hb1
  have HF1 := Lib.hid hf1
  have HMEM := Lib.hid (fun h => loadC_mem (o := o) (key := key) (kind := 3) h)
  clear hraw hz hT hb1 hf1
  generalize loadC o key 3 = lcd at *
  go_enter Tryz.func8, Tryz.ntmps8
  go_upto_region 2 with fail
  rw [← hw1]
  clear hw1
  go_wp2_with fail
  refine C.mono ?_
  rintro e w2 ⟨hb2, hev⟩
  have HB2 := Lib.hid (below_chain HB1.out hb2 HB1.out.size)
  rcases hev with ⟨rfl, rfl⟩ | ⟨hl0, g, rfl, hg⟩
  · have c1 := heap_cell ((hb2.block _ (heap_lt HF1.out)).trans HF1.out) (j := 1) (v := .slice none 0 0) rfl
    clear C hb2
    go_wp2
    go_ret2
    exact ⟨rfl, HB2.out⟩
  · have CN := fnumber_walk g lcd w2 hg (HMEM.out hl0)
    clear C hb2 hl0
    go_wp2_with fail
    refine CN.mono ?_
    rintro e w3 ⟨rfl, hb3⟩
    have HB3 := Lib.hid (below_chain HB2.out hb3 HB2.out.size)
    clear CN hb3 hg
    go_wp2
    go_ret2
    exact ⟨rfl, HB3.out⟩
end Go.Proofs.YtocommjoncchpaaGreatDoor

namespace Go.Proofs.YtocommjoncchpaaGreatDoor
open Go.RowKit

set_option maxHeartbeats 2000000 in
set_option maxRecDepth 100000 in
theorem idxObj_walk (g0 : Nat) (caps : Array Value) (p : Snp → Bool) (a : Option Addr) (c : Nat) (l : List Snp) (w : World) (hr : Row snpC w (.slice a l.length c) l) (hcnt : l.length ≤ 1100000)
    (hen : ∀ args w, (callFunc g0 args).run Tryz.prog w = .ok (.enter g0 args) w)
    (hp : ∀ x ∈ l, ∀ w', Below w.heap.size w w' → Calls Tryz.prog g0 (#[SnpV x] ++ caps) w' fun e w'' => e = .returned (.bool (p x)) ∧ Below w'.heap.size w' w'') :
    Calls Tryz.prog 47 #[.slice a l.length c, .func (.func g0) #[] caps] w fun e w' => e = .returned (.int .i64 (idxP p l)) ∧ Below w.heap.size w w' := by
  obtain ⟨a', c', hv, hc, hm, hx⟩ := hr
  cases hv
  have HX := Lib.hid hx
  have HP := Lib.hid hp
  clear hx hp
  go_enter Tryz.func47, Tryz.ntmps47
  go_wp2
  go_loopw [8] (fun i wr => ∃ k : Nat, k ≤ l.length ∧ i = .int .i64 k ∧ (∀ x ∈ l.take k, p x = false) ∧ Below w.heap.size w wr) (fun i _ => l.length - (intOf i).toNat)
  case atStart => exact ⟨0, Nat.zero_le _, rfl, by simp, Below.refl _ _⟩
  case round =>
    obtain ⟨k, hk, rfl, hall, hB⟩ := hrel
    have HALL := Lib.hid hall
    have HB := Lib.hid hB
    clear hall
    by_cases h1 : k < l.length
    · have hx := HX.out
      rcases hx with hx | ⟨b, o, rfl, hx⟩
      · exfalso; rw [hx] at h1; simp at h1
      have hfacts := snp_cells hx h1
      have HE := Lib.hid (fun h => idxP_at h1 HALL.out h)
      have HN := Lib.hid (fun h => none_step h1 HALL.out h)
      have CL := fun w' h => HP.out l[k] (List.getElem_mem h1) w' h
      clear hx
      generalize l[k] = y at *
      obtain ⟨qb, hqb⟩ : ∃ qb, p y = qb := ⟨_, rfl⟩
      rw [hqb] at CL HE HN
      clear hqb
      obtain ⟨key, raw⟩ := y
      obtain ⟨hx1, hx2⟩ := hfacts
      have hc1 := cell_below hB hx1; have hc2 := cell_below hB hx2; clear hx1 hx2
      have h1' : (k : Int) < (l.length : Int) := by omega
      have CL2 := CL wr hB
      clear hB CL
      cases qb with
      | true =>
        have HF := Lib.hid (HE.out rfl)
        clear HE HN
        go_wp2_with (refine CL2.mono ?_; rintro e w1 ⟨rfl, hb1⟩)
        go_ret
        exact ⟨by rw [HF.out]; rfl, below_chain HB.out hb1 HB.out.size⟩
      | false =>
        have HF := Lib.hid (HN.out rfl)
        clear HE HN
        go_wp2_with (refine CL2.mono ?_; rintro e w1 ⟨rfl, hb1⟩)
        go_roundw
        case rel => exact ⟨k + 1, by omega, by go_num, HF.out, below_chain HB.out hb1 HB.out.size⟩
        case measure => simp [intOf]; omega
    · have h1' : ¬ (k : Int) < (l.length : Int) := by omega
      have HF := Lib.hid (show idxP p l = -1 from idxP_none (by have := HALL.out; rwa [List.take_of_length_le (by omega)] at this))
      go_wp2
      go_ret
      exact ⟨by rw [HF.out]; rfl, HB.out⟩

set_option maxHeartbeats 1100000 in
/-- slices.ContainsFunc: whether one is. -/
theorem hasObj_walk (g0 : Nat) (caps : Array Value) (p : Snp → Bool) (v : Value) (l : List Snp) (w : World) (hr : Row snpC w v l) (hcnt : l.length ≤ 1100000)
    (hen : ∀ args w, (callFunc g0 args).run Tryz.prog w = .ok (.enter g0 args) w)
    (hp : ∀ x ∈ l, ∀ w', Below w.heap.size w w' → Calls Tryz.prog g0 (#[SnpV x] ++ caps) w' fun e w'' => e = .returned (.bool (p x)) ∧ Below w'.heap.size w' w'') :
    Calls Tryz.prog 25 #[v, .func (.func g0) #[] caps] w fun e w' => e = .returned (.bool (l.any p)) ∧ Below w.heap.size w w' := by
  obtain ⟨a, c, rfl, hc, hm, hx⟩ := hr
  have CI := idxObj_walk g0 caps p a c l w ⟨a, c, rfl, hc, hm, hx⟩ hcnt hen hp
  clear hx hp hen
  rcases idxP_cases p l with ⟨e1, hall⟩ | ⟨k0, hk0, e1, hall, hpk⟩
  · have HF := Lib.hid (show l.any p = false by rw [List.any_eq_false]; intro x hx; rw [hall x hx]; simp)
    rw [e1] at CI
    clear hall e1
    go_enter Tryz.func25, Tryz.ntmps25
    go_wp2_with (go_at_call 47; refine (CI).mono ?_; rintro e w1 ⟨rfl, hb1⟩)
    go_ret
    exact ⟨by rw [HF.out]; rfl, hb1⟩
  · have HF := Lib.hid (show l.any p = true by rw [List.any_eq_true]; exact ⟨_, List.getElem_mem hk0, hpk⟩)
    rw [e1] at CI
    have hk : (0 : Int) ≤ (k0 : Int) := by omega
    clear hall e1 hpk
    go_enter Tryz.func25, Tryz.ntmps25
    go_wp2_with (go_at_call 47; refine (CI).mono ?_; rintro e w1 ⟨rfl, hb1⟩)
    go_ret
    exact ⟨by rw [HF.out]; rfl, hb1⟩
end Go.Proofs.YtocommjoncchpaaGreatDoor
