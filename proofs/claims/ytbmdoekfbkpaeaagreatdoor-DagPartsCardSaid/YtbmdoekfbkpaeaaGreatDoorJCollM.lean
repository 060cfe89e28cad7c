/- A map's entries, collected one by one as a range over it hands them out. No program in sight. The program's objects of a tree: dag.Build. The sort of the rows is asked of the caller here (CS). -/
import Derived.Test.YtbmdoekfbkpaeaaGreatDoorJClash12
import Derived.Test.YtbmdoekfbkpaeaaGreatDoorPDir12
import Derived.Test.YtbmdoekfbkpaeaaGreatDoorJRAdd12
import Derived.Test.YtbmdoekfbkpaeaaGreatDoorJPPut12
namespace Go.Proofs.YtbmdoekfbkpaeaaGreatDoor
open Go.RowKit

structure Seen (E C : List Snp) (seen : Array Nat) : Prop where
  nd : seen.toList.Nodup
  got : C = seen.toList.filterMap fun j => E[j]?
  lt : ∀ j ∈ seen.toList, j < E.length
theorem Seen.none (E : List Snp) : Seen E [] #[] := ⟨List.nodup_nil, rfl, fun j h => by simp at h⟩
theorem ents_at {E : List Snp} {e : MapEntry} (h : e ∈ entsL E) : ∃ x, E[e.born]? = some x ∧ e.key = S x.1 ∧ e.val = S x.2 := by
  unfold entsL at h
  obtain ⟨⟨x, j⟩, hm, rfl⟩ := List.mem_map.1 h
  have := List.mem_zipIdx_iff_getElem?.1 hm
  exact ⟨x, by simpa using this, rfl, rfl⟩
theorem ents_born {E : List Snp} : ∀ e ∈ (entsL E).toArray.toList, e.born < E.length := fun e h => by
  obtain ⟨x, hx, _⟩ := ents_at (E := E) (by simpa using h)
  exact (List.getElem?_eq_some_iff.1 hx).1
theorem ents_borns (E : List Snp) : (entsL E).map (·.born) = List.range E.length := by
  unfold entsL
  rw [List.map_map]
  show E.zipIdx.map Prod.snd = _
  rw [List.zipIdx_map_snd, List.range_eq_range']
theorem ents_nodup (E : List Snp) : ((entsL E).toArray.toList.map (·.born)).Nodup := by
  rw [show (entsL E).toArray.toList = entsL E from rfl, ents_borns]; exact List.nodup_range
theorem Seen.push {E C : List Snp} {seen : Array Nat} {e : MapEntry} (h : Seen E C seen) (he : e ∈ (leftOf (entsL E).toArray seen).toList) : ∃ x, e.key = S x.1 ∧ e.val = S x.2 ∧ Seen E (C ++ [x]) (seen.push e.born) := by
  obtain ⟨h1, h2⟩ := mem_left he
  obtain ⟨x, hx, hk, hv⟩ := ents_at (E := E) (by simpa using h1)
  refine ⟨x, hk, hv, ?_, ?_, fun j hj => ?_⟩
  · rw [Array.toList_push]
    refine List.nodup_append.2 ⟨h.nd, by simp, fun a ha b hb => ?_⟩
    rw [List.mem_singleton] at hb
    rintro rfl
    subst hb
    have : seen.contains e.born = true := by simpa using ha
    rw [h2] at this; cases this
  · rw [Array.toList_push, List.filterMap_append, ← h.got]; simp [hx]
  · rw [Array.toList_push, List.mem_append, List.mem_singleton] at hj
    rcases hj with hj | rfl
    · exact h.lt j hj
    · exact (List.getElem?_eq_some_iff.1 hx).1
theorem filter_range (E : List Snp) : ((List.range E.length).filterMap fun j => E[j]?) = E := by
  induction E with
  | nil => rfl
  | cons x E ih =>
    rw [List.length_cons, List.range_succ_eq_map, List.filterMap_cons, List.filterMap_map]
    simp only [List.getElem?_cons_zero]
    congr 1
theorem Seen.all {E C : List Snp} {seen : Array Nat} (h : Seen E C seen) (h0 : (leftOf (entsL E).toArray seen).size = 0) : C.Perm E := by
  have hall : ∀ j, j ∈ seen.toList ↔ j ∈ List.range E.length := fun j => by
    refine ⟨fun hj => List.mem_range.2 (h.lt j hj), fun hj => ?_⟩
    rw [← ents_borns, List.mem_map] at hj
    obtain ⟨e, he, rfl⟩ := hj
    have hnil : leftOf (entsL E).toArray seen = #[] := Array.eq_empty_of_size_eq_zero h0
    unfold leftOf at hnil
    rw [Array.filter_eq_empty_iff] at hnil
    have := hnil e (by simpa using he)
    simpa using this
  have hp : seen.toList.Perm (List.range E.length) := (List.perm_ext_iff_of_nodup h.nd List.nodup_range).2 hall
  rw [h.got]
  conv => rhs; rw [← filter_range E]
  exact hp.filterMap _
theorem Seen.len {E C : List Snp} {seen : Array Nat} (h : Seen E C seen) : C.length = seen.size ∧ seen.size ≤ E.length := by
  constructor
  · rw [h.got, ← Array.length_toList]
    have hl := h.lt
    generalize seen.toList = l at hl
    induction l with
    | nil => rfl
    | cons a l ih =>
      have := hl a List.mem_cons_self
      rw [List.filterMap_cons, List.getElem?_eq_getElem this]
      simp [ih fun j hj => hl j (List.mem_cons_of_mem _ hj)]
  · have := h.nd.length_le_of_subset (l₂ := List.range E.length) fun j hj => List.mem_range.2 (h.lt j hj)
    simpa using this
end Go.Proofs.YtbmdoekfbkpaeaaGreatDoor

namespace Go.Proofs.YtbmdoekfbkpaeaaGreatDoor
open Go.RowKit
open Go.ChangeMaps (setBlock)

theorem heapOldB {w : World} {o x : Obj} {k : Nat} (h : w.heap[k]? = some x) : (w.alloc o).heap[k]? = some x := (Below.heap_alloc w o k (heap_lt h)).trans h
theorem heapNewB {w : World} {k : Nat} (h : k = w.heap.size) (o : Obj) : (w.alloc o).heap[k]? = some o := by subst h; exact heap_alloc_new w o
theorem setBlockNew {w : World} {r : Nat} (hr : r < w.heap.size) (o : Obj) : (setBlock w r o).heap[r]? = some o := by
  show (w.heap.setIfInBounds r o)[r]? = _
  rw [Array.getElem?_setIfInBounds_self]; simp [hr]
theorem setBlockOld {w : World} {r k : Nat} (h : r ≠ k) (o : Obj) : (setBlock w r o).heap[k]? = w.heap[k]? := by
  show (w.heap.setIfInBounds r o)[k]? = _
  rw [Array.getElem?_setIfInBounds_ne h]

/-- What is asked of the sort. -/
def SortsO (B : Nat) : Prop := ∀ (g c : Nat) (C : List Snp) (W : World), W.ownsRow B 34 2 (.slice (some ⟨g, 0, none⟩) C.length c) C.length (C.flatMap snpC) → C.length ≤ 100000 → (namesR C).Nodup →
  Calls Tryz.prog 23 #[.slice (some ⟨g, 0, none⟩) C.length c, .func (.func 24) #[] #[]] W fun e w' => e = .returned (.tuple #[]) ∧ ∃ C', C'.Perm C ∧ upS (namesR C') ∧ SnpRow w' (.slice (some ⟨g, 0, none⟩) C.length c) C' ∧ Below B W w'

/-- Between two rounds over the map. -/
def CollI (w : World) (r mb : Nat) (E : List Snp) (v : Value) (wr : World) : Prop :=
  ∃ (C : List Snp) (seen : Array Nat) (ga : Option Addr) (c : Nat), v = .slice ga C.length c ∧ Seen E C seen ∧ wr.ownsRow (r + 1) 34 2 (.slice ga C.length c) C.length (C.flatMap snpC) ∧
    wr.heap[r]? = some (.mapIter (some mb) E.length seen E.length) ∧ wr.heap[mb]? = some (.map (entsL E).toArray E.length) ∧ Below w.heap.size w wr ∧ r + 1 ≤ wr.heap.size

theorem names_perm {a b : List Snp} (h : a.Perm b) : (namesR a).Perm (namesR b) := h.map _
theorem sorted_uniq : ∀ {a b : List Snp}, a.Perm b → upS (namesR a) → upS (namesR b) → a = b
  | [], b, h, _, _ => (List.nil_perm.1 h).symm
  | x :: a, [], h, _, _ => by simpa using h.length_eq
  | x :: a, y :: b, h, ha, hb => by
    have ha' := List.pairwise_cons.1 (show List.Pairwise (· < ·) (x.1 :: namesR a) from ha)
    have hb' := List.pairwise_cons.1 (show List.Pairwise (· < ·) (y.1 :: namesR b) from hb)
    have hxy : x = y := by
      rcases List.mem_cons.1 (h.subset List.mem_cons_self) with h1 | h1
      · exact h1
      · rcases List.mem_cons.1 (h.symm.subset List.mem_cons_self) with h2 | h2
        · exact h2.symm
        · have h3 := hb'.1 x.1 (List.mem_map.2 ⟨x, h1, rfl⟩)
          have h4 := ha'.1 y.1 (List.mem_map.2 ⟨y, h2, rfl⟩)
          exact absurd (List.lt_trans h3 h4) (List.lt_irrefl _)
    subst hxy
    rw [sorted_uniq ((List.perm_cons _).1 h) ha'.2 hb'.2]

set_option maxHeartbeats 8000000 in
set_option maxRecDepth 100000 in
theorem pbuild12_walk (x k y z ic : Nat) (ia : Option Addr) (items : List Itm) (w : World) (hf : FitC x k z) (hpk : 2 ^ k = y) (hrd : Ready (piecesC x k z) items) (hir : ItRow w (.slice ia items.length ic) items) (hmx : Mx w) (htz : TzT w)
    (hfw : (dirO (piecesC x k z) items 9 [] []).length ≤ 100000) (hpos : 0 < (dirO (piecesC x k z) items 9 [] []).length) (CS : SortsO w.heap.size) :
    Calls Tryz.prog 9 #[PrmV x y z, .slice ia items.length ic] w fun e w' => ∃ v', e = .returned (.tuple #[S (keyN (dirN (piecesC x k z) items 9 [])), v']) ∧ SnpRow w' v' (dirO (piecesC x k z) items 9 [] []) ∧ Below w.heap.size w w' := by
  obtain ⟨i0, hi, hz0, hz1, hz2⟩ := info_parts infoObj
  have hmk : Sem.run Tryz.prog (Instr.makeMap 53 none) (w.alloc (.cells #[.int .i64 (x : Nat), .int .i64 (y : Nat), .int .i64 (z : Nat)] 23)) = Result.ok (Value.map (some (w.heap.size + 1))) ((w.alloc (.cells #[.int .i64 (x : Nat), .int .i64 (y : Nat), .int .i64 (z : Nat)] 23)).alloc (.map #[] 0)) := by
    rw [show w.heap.size + 1 = (w.alloc (.cells #[.int .i64 (x : Nat), .int .i64 (y : Nat), .int .i64 (z : Nat)] 23)).heap.size by simp]; rfl
  obtain ⟨w1, hw1, HB1, hz1s, hmp, hbl⟩ : ∃ w1, w1 = ((w.alloc (.cells #[.int .i64 (x : Nat), .int .i64 (y : Nat), .int .i64 (z : Nat)] 23)).alloc (.map #[] 0)).alloc (.cells #[.map (some (w.heap.size + 1)), .int .i64 (x : Nat), .int .i64 (y : Nat), .int .i64 (z : Nat), .slice ia items.length ic] 55) ∧ Hid (Below w.heap.size w w1) ∧ w1.heap.size = w.heap.size + 3 ∧ w1.heap[w.heap.size + 1]? = some (.map #[] 0) ∧ BldP w1 (w.heap.size + 1 + 1) (w.heap.size + 1) x y z ia items.length ic := by
    refine ⟨_, rfl, Lib.hid ((((Below.refl _ _).alloc (Nat.le_refl _) _).alloc (by simp) _).alloc (by simp; omega) _), by simp, ?_, ?_⟩
    · exact heapOldB (heapNewB (by simp) _)
    · exact heapNewB (by simp) _
  have CD := pdir12_walk (w.heap.size + 1 + 1) (w.heap.size + 1) x k y z ic ia items hf hpk hrd 9 [] [] w1 ⟨hbl, hir.below HB1.out, hmx.below HB1.out, htz.below HB1.out⟩ ⟨[], hmp, List.Perm.refl _, by simp [namesR]⟩ rfl (.inl rfl)
  have HAM := Lib.hid (hrd.among 9 [] [] (.inl rfl) rfl ⟨rfl, by simp [namesR]⟩)
  clear hir hmx htz
  generalize hkn : keyN (dirN (piecesC x k z) items 9 []) = kn at *
  generalize hol : dirO (piecesC x k z) items 9 [] [] = ol at *
  clear hkn hol
  go_enter Tryz.func9, Tryz.ntmps9
  go_upto_region 2 with fail
  rw [← hw1]
  clear hw1
  go_wp2_with fail
  refine CD.mono ?_
  rintro e w2 ⟨rfl, hm2, hg2⟩
  obtain ⟨E, hE, hpe, hnd⟩ := hm2
  have hsz2 := hg2.size
  have hbl2 : BldP w2 (w.heap.size + 1 + 1) (w.heap.size + 1) x y z ia items.length ic := (hg2.block _ (heap_lt hbl) (by simp)).trans hbl
  have HBW2 := Lib.hid (show Below w.heap.size w w2 from HB1.out.trans (gro_below hg2 (by omega) (by omega)))
  obtain ⟨d0, -⟩ := bld_cells hbl2
  have hrng := run_range_map (P := Tryz.prog) w2 53 9 9 (w.heap.size + 1) (entsL E).toArray E.length Tryz.underlying53 hE
  clear CD hg2 hbl hmp
  obtain ⟨w3, hw3, hit3, hm3, HB3, hs3⟩ : ∃ w3, w3 = w2.alloc (.mapIter (some (w.heap.size + 1)) E.length #[] E.length) ∧ w3.heap[w2.heap.size]? = some (.mapIter (some (w.heap.size + 1)) E.length #[] E.length) ∧ w3.heap[w.heap.size + 1]? = some (.map (entsL E).toArray E.length) ∧ Hid (Below w.heap.size w w3) ∧ w3.heap.size = w2.heap.size + 1 :=
    ⟨_, rfl, heap_alloc_new _ _, heapOldB hE, Lib.hid (HBW2.out.alloc HBW2.out.size _), by simp⟩
  go_upto_region 5 with fail
  rw [← hw3]
  clear hw3 hrng d0 hbl2 hE
  obtain ⟨r, hr⟩ : ∃ r, w2.heap.size = r := ⟨_, rfl⟩
  obtain ⟨mb, hmb⟩ : ∃ mb, w.heap.size + 1 = mb := ⟨_, rfl⟩
  have hrw : w.heap.size ≤ r := by rw [← hr]; omega
  have hmr : mb < r := by omega
  have hrm : mb ≠ r := by omega
  rw [hr] at hit3 hs3 ⊢
  rw [hmb] at hit3 hm3
  clear hr hmb
  have hel := hpe.length_eq
  go_loopw [8] (fun v wr => CollI w r mb E v wr) (fun v _ => match v with | .slice _ n _ => E.length - n | _ => 0)
  case atStart => exact ⟨[], #[], none, 0, rfl, Seen.none E, World.ownsRow_nil _ _ _ _, hit3, hm3, HB3.out, by omega⟩
  case round =>
    obtain ⟨C, seen, ga, c, rfl, hsn, hown, hit, hmp, hB, hrs⟩ := hrel
    have hcl := hsn.len
    rcases run_next_at (P := Tryz.prog) wr 0 r mb E.length E.length seen (entsL E).toArray E.length hit hmp ents_born (Nat.le_refl _) with ⟨h0, hrun⟩ | ⟨e, he, w4, hw4, hrun⟩
    · have hpc := (hsn.all h0).trans hpe
      have hlc : C.length = ol.length := hpc.length_eq
      obtain ⟨g, rfl⟩ : ∃ g, ga = some ⟨g, 0, none⟩ := by
        rcases hown.2 with ⟨_, h⟩ | ⟨g, cap, cur, hv, _⟩
        · omega
        · exact ⟨g, by cases hv; rfl⟩
      have CSS := CS g c C wr (own_base hown (by omega)) (by omega) ((names_perm hpc).nodup_iff.2 hnd)
      have HB := Lib.hid hB
      have HP := Lib.hid hpc
      clear hown hit hmp hB hsn hcl hit3 hm3 CS h0 hpc hlc hel
      go_wp2_with fail
      refine CSS.mono ?_
      rintro e w7 ⟨rfl, C', hp', hup, hrow, hb7⟩
      obtain rfl : C' = ol := sorted_uniq (hp'.trans HP.out) hup (fit5_up12 HAM.out.1)
      have HROW7 := Lib.hid hrow
      have HB7 := Lib.hid (HB.out.trans hb7)
      clear hb7 CSS hrun hrow hup hp'
      go_wp2
      go_ret2
      exact ⟨_, rfl, HROW7.out, HB7.out⟩
    · have h4 : w4.heap = wr.heap := by rcases hw4 with rfl | rfl <;> rfl
      have hB4 : Below w.heap.size w w4 := by
        rcases hw4 with rfl | rfl
        · exact hB
        · exact hB.drew
      obtain ⟨xo, hke, hva, hsn2⟩ := hsn.push he
      have hl2 := hsn2.len
      have hr4 : r < w4.heap.size := by rw [h4]; exact heap_lt hit
      have hne : ∀ j, (Value.slice ga C.length c).ownBlock = some j → r + 1 ≤ j := fun j hj => (hown.lt j hj).1
      obtain ⟨w5, hw5, hit5, hm5, hB5, hown5, hs5⟩ : ∃ w5, w5 = setBlock w4 r (.mapIter (some mb) E.length (seen.push e.born) E.length) ∧ w5.heap[r]? = some (.mapIter (some mb) E.length (seen.push e.born) E.length) ∧ w5.heap[mb]? = some (.map (entsL E).toArray E.length) ∧ Below w.heap.size w w5 ∧ w5.ownsRow (r + 1) 34 2 (.slice ga C.length c) C.length (C.flatMap snpC) ∧ w5.heap.size = wr.heap.size := by
        refine ⟨_, rfl, setBlockNew hr4 _, ?_, ?_, ?_, ?_⟩
        · rw [setBlockOld (fun e => hrm e.symm), h4]; exact hmp
        · refine ⟨hB4.os, hB4.tape, hB4.output, by show w.heap.size ≤ (w4.heap.setIfInBounds r _).size; simpa using hB4.size, fun k hk => ?_⟩
          rw [setBlockOld (by omega)]; exact hB4.block k hk
        · exact own_block2 hown fun j hj => by rw [setBlockOld (by have := hne j hj; omega), h4]
        · show (w4.heap.setIfInBounds r _).size = _
          simp [h4]
      have hent := run_entry_at (P := Tryz.prog) w5 r mb E.length seen (entsL E).toArray E.length e hit5 hm5 (mem_left he).1 (ents_nodup E)
      rw [hke, hva] at hrun hent
      rw [← hw5] at hrun
      clear hw5 h4 hB4 hr4 hw4 hit hmp hB hown hit3 hm3 CS hsn
      have hclen : C.length < E.length := by have := hl2.1; have := hl2.2; simp at this ⊢; omega
      have HL := Lib.hid (show C.length < 100000 ∧ E.length ≤ 100000 ∧ C.length < E.length from ⟨by omega, by omega, hclen⟩)
      have HSN := Lib.hid hsn2
      have HS5 := Lib.hid hs5
      have HRS := Lib.hid hrs
      clear hel hcl hl2 hclen hsn2 hs5 hrs he hke hva hpe hnd
      go_wp2_with (at_builtin; refine wpList_append_own _ rfl _ _ 27 rfl (r + 1) 34 i0 (.agg #[.string ⟨#[]⟩, .string ⟨#[]⟩]) 2 32 Tryz.underlying27 hi hz0 hz1 hz2 rfl (by decide) _ _ _ rfl (hown5.alloc _) ⟨w5.heap.size, 0, none⟩ 1 1 [S xo.1, S xo.2] rfl rfl (new_cells _ _ _ _) (by intro u hu; simp at hu; rcases hu with rfl | rfl <;> rfl) (by have := HL.out; unfold maxLen; omega) (by have := HL.out; omega) (by have := HS5.out; have := HRS.out; simp; omega) ?_)
      intro v' w6 hown' hgrow _
      obtain ⟨g', cap', rfl⟩ := ownsRow_succ hown'
      have hs5 := HS5.out
      have hrs := HRS.out
      have hsn2 := HSN.out
      have hk6 : ∀ j, j < wr.heap.size → j < r + 1 → w6.heap[j]? = w5.heap[j]? := fun j hj hjr => (hgrow.block j (by rw [World.size_alloc]; omega) (fun e => by have := hne _ e.symm; omega)).trans (Below.heap_alloc _ _ _ (by omega))
      have HREL := Lib.hid (show CollI w r mb E (.slice (some ⟨g', 0, none⟩) (C.length + 1) cap') w6 from
        ⟨C ++ [xo], seen.push e.born, some ⟨g', 0, none⟩, cap', by simp, hsn2, by simpa [snpC] using hown', (hk6 r (by omega) (by omega)).trans hit5, (hk6 mb (by omega) (by omega)).trans hm5, (hB5.alloc hB5.size _).grown hgrow (by rw [World.size_alloc]; have := hB5.size; omega) (fun j hj => by have := hne j hj; omega), by have := hgrow.size; rw [World.size_alloc] at this; omega⟩)
      clear hrun hent hown' hgrow hit5 hm5 hB5 hown5 hk6 hs5 hrs hsn2
      go_wp2
      go_roundw
      case rel => exact HREL.out
      case measure => have := HL.out; simp; omega
end Go.Proofs.YtbmdoekfbkpaeaaGreatDoor
