/- The reference's Raws and Clash. How many nodes a tree has: plain. A map from texts to texts that the call makes: its entries are those of a list. -/
import Derived.Test.YtbmdoekfbkpaeaaGreatDoorRRaw12
import Derived.Test.YtbmdoekfbkpaeaaGreatDoorJKeysP
import Derived.Test.YtbmdoekfbkpaeaaGreatDoorJRAdd12
import Derived.Test.YtbmdoekfbkpaeaaGreatDoorJNodesT
import Derived.Test.YtbmdoekfbkpaeaaGreatDoorJRKey11
import Derived.Maps.OwnOps
import Derived.Maps.RangeRun
import Derived.Maps.Views
import Derived.StringKeys
import Derived.Laws.StructEq
namespace Go.Proofs.YtbmdoekfbkpaeaaGreatDoor
open Go.RowKit

set_option maxHeartbeats 4000000 in
set_option maxRecDepth 100000 in
theorem rraws12_walk (x k y z : Nat) (iv : Value) (items : List Itm) (w : World) (hf : FitC x k z) (hpk : 2 ^ k = y) (hrd : Ready (piecesC x k z) items) (hir : ItRow w iv items) (hcnt : (nodesD (piecesC x k z) items 9 []).length ≤ 200000) :
    Calls Tryz.prog 18 #[PrmV x y z, iv] w fun e w' => ∃ v', e = .returned v' ∧ w'.ownsRow w.heap.size 9 1 v' (rawsN (nodesD (piecesC x k z) items 9 [])).length ((rawsN (nodesD (piecesC x k z) items 9 [])).map S) ∧ Below w.heap.size w w' := by
  obtain ⟨w1, hw1, HB1, HC1⟩ : ∃ w1, w1 = w.alloc (.cells #[.int .i64 (x : Nat), .int .i64 (y : Nat), .int .i64 (z : Nat)] 23) ∧ Hid (Below w.heap.size w w1) ∧ Hid (w1.heap[w.heap.size]? = some (.cells #[.int .i64 (x : Nat), .int .i64 (y : Nat), .int .i64 (z : Nat)] 23 (0, 0))) :=
    ⟨_, rfl, Lib.hid ((Below.refl _ _).alloc (Nat.le_refl _) _), Lib.hid (heap_alloc_new _ _)⟩
  have C := rraw12_walk x k y z iv items w hf hpk hrd hir 9 0 (.slice none 0 0) [] [] w1 HB1.out (World.ownsRow_nil _ _ _ _) rfl rfl (.inl rfl) (by simpa using hcnt)
  have c0 := heap_cell HC1.out (j := 0) (v := .int .i64 (x : Nat)) rfl
  have c1 := heap_cell HC1.out (j := 1) (v := .int .i64 (y : Nat)) rfl
  have c2 := heap_cell HC1.out (j := 2) (v := .int .i64 (z : Nat)) rfl
  obtain ⟨ia, ic, rfl⟩ := row_slice hir
  rw [List.nil_append] at C
  generalize rawsN (nodesD (piecesC x k z) items 9 []) = rs at *
  clear hf hpk hrd hir hcnt
  go_enter Tryz.func18, Tryz.ntmps18
  go_upto_region 1 with fail
  rw [← hw1]
  clear hw1
  go_wp2_with fail
  refine C.mono ?_
  rintro e w2 ⟨v2, rfl, hg⟩
  have HO := Lib.hid hg.own
  have HB2 := Lib.hid (show Below w.heap.size w w2 from hg.base rfl HB1.out HB1.out.size (fun j hj => by simp [Value.ownBlock] at hj))
  clear C hg c0 c1 c2
  go_wp2
  go_ret
  exact ⟨_, rfl, HO.out, HB2.out⟩

/-- What Clash answers. -/
def ClashPost (l : List (List UInt8)) (w : World) (e : Ending) (w' : World) : Prop := ∃ b : Bool, e = .returned (.bool b) ∧ (b = true ↔ ClashP l) ∧ Below w.heap.size w w'
/-- Behind some texts of which no two have one sum: the objects. -/
structure ClashI (t : List (List UInt8)) (o : List Snp) : Prop where
  fit : fit5 (namesR o) = true
  here : ∀ x ∈ t, findR o (shaF x) = some x
  from_ : ∀ y ∈ o, y.2 ∈ t ∧ y.1 = shaF y.2
theorem ClashI.no {t : List (List UInt8)} {o : List Snp} (h : ClashI t o) : ¬ ClashP t := by
  rintro ⟨a, ha, b, hb, hne, he⟩
  have h1 := h.here a ha
  rw [he, h.here b hb] at h1
  injection h1 with h1
  exact hne h1.symm
theorem ClashI.next {t : List (List UInt8)} {o : List Snp} (h : ClashI t o) {x : List UInt8} (hx : findR o (shaF x) = none ∨ findR o (shaF x) = some x) : ClashI (t ++ [x]) (addO o (shaF x, x)) := by
  have hu := fit5_up12 h.fit
  refine ⟨addO_fit h.fit, fun y hy => ?_, fun y hy => ?_⟩
  · unfold addO
    by_cases hs : (findR o (shaF x)).isSome = true
    · rw [if_pos (.inl hs)]
      rcases List.mem_append.1 hy with hy | hy
      · exact h.here y hy
      · rw [List.mem_singleton.1 hy]
        rcases hx with hx | hx
        · rw [hx] at hs; cases hs
        · exact hx
    · rw [if_neg (by rintro (h1 | h1); exact hs h1; exact h1 (shaF_len x))]
      have hn : (shaF x, x).1 ∉ namesR o := by
        intro hm
        rw [findR_is hu] at hs
        exact hs (by simpa using hm)
      obtain ⟨h1, h2⟩ := addO_finds hu hn
      rcases List.mem_append.1 hy with hy | hy
      · have h3 := h.here y hy
        obtain ⟨z, hz, e1, e2⟩ : ∃ z ∈ o, z.1 = shaF y ∧ z.2 = y := by
          unfold findR at h3
          rw [Option.map_eq_some_iff] at h3
          obtain ⟨z, hz, e⟩ := h3
          exact ⟨z, List.mem_of_find?_eq_some hz, by have := List.find?_some hz; simpa using this, e⟩
        have h4 := h2 z hz
        rw [e1, e2] at h4
        exact h4
      · rw [List.mem_singleton.1 hy]; exact h1
  · unfold addO at hy
    split at hy
    · obtain ⟨h1, h2⟩ := h.from_ y hy
      exact ⟨List.mem_append_left _ h1, h2⟩
    · rcases mem_insO.1 hy with rfl | hy
      · exact ⟨List.mem_append_right _ (List.mem_singleton.2 rfl), rfl⟩
      · obtain ⟨h1, h2⟩ := h.from_ y hy
        exact ⟨List.mem_append_left _ h1, h2⟩
theorem ClashI.hit {t : List (List UInt8)} {o : List Snp} (h : ClashI t o) {x r : List UInt8} (hr : findR o (shaF x) = some r) (hne : r ≠ x) {l : List (List UInt8)} (ht : ∀ y ∈ t, y ∈ l) (hx : x ∈ l) : ClashP l := by
  unfold findR at hr
  rw [Option.map_eq_some_iff] at hr
  obtain ⟨z, hz, e⟩ := hr
  have h1 := List.mem_of_find?_eq_some hz
  have h2 : z.1 = shaF x := by have := List.find?_some hz; simpa using this
  obtain ⟨h3, h4⟩ := h.from_ z h1
  rw [e] at h3 h4
  exact ⟨r, ht r h3, x, hx, hne, by rw [← h4, h2]⟩

set_option maxHeartbeats 8000000 in
set_option maxRecDepth 100000 in
theorem rclash12_walk (v : Value) (l : List (List UInt8)) (w : World) (hr : StrRow w v l) (hcnt : l.length ≤ 900000) (hlen : ∀ x ∈ l, x.length ≤ 1100000) :
    Calls Tryz.prog 17 #[v] w (ClashPost l w) := by
  obtain ⟨a, c, rfl, hc, hm, hx⟩ := hr
  have HX := Lib.hid hx
  have HLEN := Lib.hid hlen
  have HYES := Lib.hid (fun (h : ClashP l) (w' : World) (hB : Below w.heap.size w w') => show ClashPost l w (.returned (.bool true)) w' from ⟨true, rfl, ⟨fun _ => h, fun _ => rfl⟩, hB⟩)
  have HNO := Lib.hid (fun (h : ¬ ClashP l) (w' : World) (hB : Below w.heap.size w w') => show ClashPost l w (.returned (.bool false)) w' from ⟨false, rfl, ⟨fun e => (by cases e), fun e => absurd e h⟩, hB⟩)
  clear hx hlen
  go_enter Tryz.func17, Tryz.ntmps17
  go_wp2
  go_loopw [3, 4] (fun ov i wr => ∃ (k : Nat) (o : List Snp), k ≤ l.length ∧ i = .int .i64 k ∧ Hid (ClashI (l.take k) o) ∧ o.length ≤ k ∧ SnpRow wr ov o ∧ Below w.heap.size w wr) (fun _ i _ => l.length - (intOf i).toNat)
  case atStart => exact ⟨0, [], Nat.zero_le _, rfl, Lib.hid ⟨rfl, by simp, by simp⟩, by simp, Row.nil _ _, Below.refl _ _⟩
  case round =>
    obtain ⟨k, o, hk, rfl, HI, hol, hor, hB⟩ := hrel
    have HB := Lib.hid hB
    have HOR := Lib.hid hor
    obtain ⟨oa, oc, rfl⟩ := row_slice hor
    by_cases h1 : k < l.length
    · have h1' : (k : Int) < (l.length : Int) := by omega
      have hx := HX.out
      rcases hx with hx | ⟨b, o2, rfl, hx⟩
      · exfalso; rw [hx] at h1; simp at h1
      have hc1 := cell_below hB (str_cell hx h1)
      have HT := Lib.hid (show l.take (k + 1) = l.take k ++ [l[k]] from List.take_succ_eq_append_getElem h1)
      have HMEM := Lib.hid (show l[k] ∈ l from List.getElem_mem h1)
      have hsl := HLEN.out l[k] HMEM.out
      clear hx hor hB
      generalize l[k] = s at *
      have CS := rsha_walk s wr hsl
      have HNX := Lib.hid (fun (h : findR o (shaF s) = none ∨ findR o (shaF s) = some s) => HI.out.next h)
      have HHIT := Lib.hid (fun (r : List UInt8) (h : findR o (shaF s) = some r) (hne : r ≠ s) => (HI.out.hit h hne (fun y hy => List.mem_of_mem_take hy) HMEM.out : ClashP l))
      obtain ⟨kk, hkk⟩ : ∃ kk, shaF s = kk := ⟨_, rfl⟩
      rw [hkk] at CS HNX HHIT
      clear hkk
      go_wp2_with fail
      refine CS.mono ?_
      rintro e w2 ⟨rfl, hb2⟩
      have HB2 := Lib.hid (below_chain HB.out hb2 HB.out.size)
      have HR2 := Lib.hid (HOR.out.below hb2)
      have hc2 := cell_below hb2 hc1
      have CG := rget_walk (.slice oa o.length oc) o kk w2 HR2.out (by omega)
      clear CS hb2 hc1
      go_wp2_with fail
      refine CG.mono ?_
      rintro e w3 ⟨rfl, hb3⟩
      have HB3 := Lib.hid (below_chain HB2.out hb3 HB2.out.size)
      have HR3 := Lib.hid (HR2.out.below hb3)
      have hc3 := cell_below hb3 hc2
      clear CG hb3 hc2
      have CA := r12add_walk (.slice oa o.length oc) o (kk, s) w3 HR3.out (by omega)
      cases hf : findR o kk with
      | none =>
        have HN := Lib.hid (HNX.out (.inl hf))
        have HL := Lib.hid (addO_len o (kk, s))
        generalize addO o (kk, s) = o' at *
        simp only [rootOf, Option.isSome_none]
        clear HNX HHIT hf
        go_wp2_with fail
        refine CA.mono ?_
        rintro e w4 ⟨v4, rfl, hr4, hb4⟩
        have HR4 := Lib.hid hr4
        have HB4 := Lib.hid (below_chain HB3.out hb4 HB3.out.size)
        clear CA hr4 hb4
        go_wp2
        go_roundw
        case rel => exact ⟨k + 1, o', by omega, by go_num, by rw [HT.out]; exact HN, by have := HL.out; omega, HR4.out, HB4.out⟩
        case measure => simp [intOf]; omega
      | some r =>
        simp only [rootOf, Option.isSome_some]
        by_cases hrs : r = s
        · subst hrs
          have HN := Lib.hid (HNX.out (.inr hf))
          have HL := Lib.hid (addO_len o (kk, r))
          generalize addO o (kk, r) = o' at *
          have hne : (r == r) = true := by simp
          clear HNX HHIT hf
          go_wp2_with fail
          refine CA.mono ?_
          rintro e w4 ⟨v4, rfl, hr4, hb4⟩
          have HR4 := Lib.hid hr4
          have HB4 := Lib.hid (below_chain HB3.out hb4 HB3.out.size)
          clear CA hr4 hb4
          go_wp2
          go_roundw
          case rel => exact ⟨k + 1, o', by omega, by go_num, by rw [HT.out]; exact HN, by have := HL.out; omega, HR4.out, HB4.out⟩
          case measure => simp [intOf]; omega
        · have hne : (r == s) = false := by rw [beq_eq_false_iff_ne]; exact hrs
          have HH := Lib.hid (HHIT.out r hf hrs)
          clear HNX HHIT hf hrs CA
          go_wp2
          go_ret
          exact HYES.out HH.out _ HB3.out
    · have h1' : ¬ (k : Int) < (l.length : Int) := by omega
      have HN := Lib.hid (show ¬ ClashP l by
        have := HI.out.no
        rwa [List.take_of_length_le (by omega)] at this)
      go_wp2
      go_ret
      exact HNO.out HN.out _ HB.out
theorem rawsN_small (l : List Nod) : ∀ x ∈ rawsN l, x.length ≤ 1100000 := by
  intro x hx
  obtain ⟨n, _, rfl⟩ := List.mem_map.1 hx
  have := writeN_len (n := n)
  omega
theorem rawsN_pos {pc : List UInt8 → List (List UInt8)} {items : List Itm} (n : Nat) (d : List UInt8) : 0 < (rawsN (nodesD pc items n d)).length := by
  rw [rawsN_len]
  exact List.length_pos_of_mem (nodesD_top n d)
end Go.Proofs.YtbmdoekfbkpaeaaGreatDoor

namespace Go.Proofs.YtbmdoekfbkpaeaaGreatDoor

section
variable {pc : List UInt8 → List (List UInt8)} {items : List Itm}
theorem rel_ne : ∀ (n : Nat) (d : List UInt8) {r : List (List UInt8) × (Bool × Bool × List UInt8)}, r ∈ relD items n d → r.1 ≠ []
  | 0, _, _, h => by cases h
  | n + 1, d, r, h => by
    unfold relD at h
    obtain ⟨x, hx, h⟩ := List.mem_flatMap.1 h
    rcases List.mem_cons.1 h with rfl | h
    · simp
    · split at h
      · obtain ⟨r', hr', rfl⟩ := List.mem_map.1 h
        simp
      · cases h
theorem Ready.lasts (hr : Ready pc items) (d : List UInt8) : (inD items d).Pairwise (fun a b => lastN a.1 < lastN b.1) := by
  rcases hr.dir 1 d with h | h | h
  · exact absurd h.1 (by simp [dirN])
  · exact absurd h.1 (by simp [dirN])
  · have h2 := h.2.2.2.rises
    unfold risesE at h2
    rw [show (dirN pc items 1 d).ents = (inD items d).map (entK pc (fun p => keyN (dirN pc items 0 p))) from rfl, List.map_map, List.pairwise_map] at h2
    exact h2
theorem rel_nodup (hr : Ready pc items) : ∀ (n : Nat) (d : List UInt8), (relD items n d).Nodup
  | 0, _ => List.Pairwise.nil
  | n + 1, d => by
    unfold relD
    refine List.pairwise_flatMap.2 ⟨fun x _ => ?_, ?_⟩
    · split
      · refine List.pairwise_cons.2 ⟨fun r hr2 e => ?_, ?_⟩
        · obtain ⟨r', hr', rfl⟩ := List.mem_map.1 hr2
          have := rel_ne n x.1 hr'
          injection e with e1 _
          injection e1 with _ e1
          exact this e1.symm
        · refine List.pairwise_map.2 (List.Pairwise.imp ?_ (rel_nodup hr n x.1))
          intro a b hab e
          injection e with e1 e2
          injection e1 with _ e1
          exact hab (Prod.ext e1 e2)
      · exact List.pairwise_singleton _ _
    · refine List.Pairwise.imp ?_ (hr.lasts d)
      intro a b hab r hra s hsb e
      have first : ∀ {z : Itm} {t : List (List UInt8) × (Bool × Bool × List UInt8)}, t ∈ (([lastN z.1], z.2) :: if z.2.1 = true then (relD items n z.1).map (fun r => (lastN z.1 :: r.1, r.2)) else []) → t.1.head? = some (lastN z.1) := by
        intro z t ht
        rcases List.mem_cons.1 ht with rfl | ht
        · rfl
        · split at ht
          · obtain ⟨r', _, rfl⟩ := List.mem_map.1 ht
            rfl
          · cases ht
      have h1 := first hra
      have h2 := first hsb
      rw [e, h2] at h1
      injection h1 with h1
      rw [h1] at hab
      exact List.lt_irrefl _ hab
theorem rel_len (hr : Ready pc items) : (relD items 9 []).length ≤ items.length := by
  have h := nodup_le (relD items 9 []) (items.map (fun x => (partsL x.1, x.2))) (rel_nodup hr 9 []) fun r h => by
    obtain ⟨x, hx, e1, e2⟩ := rel_sound hr 9 [] h
    refine List.mem_map.2 ⟨x, hx, ?_⟩
    refine Prod.ext ?_ e2.symm
    simpa [pdD] using e1
  rwa [List.length_map] at h
theorem nodes_rel (hr : Ready pc items) : ∀ (n : Nat) (d : List UInt8), (nodesD pc items n d).length ≤ 1 + 1026 * (relD items n d).length
  | 0, _ => by simp [nodesD]
  | n + 1, d => by
    rw [nodesD_succ, List.length_append, List.length_singleton]
    unfold relD nodesS
    have key : ∀ (l : List Itm), (∀ x ∈ l, x ∈ items) → (l.flatMap (fun x => if x.2.1 = true then nodesD pc items n x.1 else nodesF (pc x.2.2.2))).length ≤ 1026 * (l.flatMap (fun x => ([lastN x.1], x.2) :: if x.2.1 = true then (relD items n x.1).map (fun r => (lastN x.1 :: r.1, r.2)) else [])).length := by
      intro l
      induction l with
      | nil => intro _; simp
      | cons x l ih =>
        intro hl
        have h1 := ih (fun y hy => hl y (List.mem_cons_of_mem _ hy))
        have h2 := nodes_rel hr n x.1
        have h3 := hr.few x (hl x List.mem_cons_self)
        rw [List.flatMap_cons, List.length_append, List.flatMap_cons, List.length_append, List.length_cons]
        split
        · rw [List.length_map]; omega
        · have : (nodesF (pc x.2.2.2)).length = (pc x.2.2.2).length + 1 := by simp [nodesF]
          simp only [List.length_nil]
          omega
    have := key (inD items d) (fun x hx => (mem_inD.1 hx).1)
    omega
theorem Ready.nodes_len (hr : Ready pc items) : (nodesD pc items 9 []).length ≤ 70000 := by
  have h1 := nodes_rel hr 9 []
  have h2 := rel_len hr
  have h3 := hr.fit.len
  omega
end
end Go.Proofs.YtbmdoekfbkpaeaaGreatDoor

namespace Go.Proofs.YtbmdoekfbkpaeaaGreatDoor
open Go.RowKit
open Go.ChangeMaps (setBlock)

def entsL (E : List Snp) : List MapEntry := E.zipIdx.map fun p => ⟨S p.1.1, S p.1.2, p.2⟩
theorem entsL_len (E : List Snp) : (entsL E).length = E.length := by simp [entsL]
theorem entsL_snoc (E : List Snp) (x : Snp) : entsL (E ++ [x]) = entsL E ++ [⟨S x.1, S x.2, E.length⟩] := by
  simp [entsL, List.zipIdx_append]
/-- Block b is a map whose entries, in the order in which they came, are E's. -/
def SMapE (w : World) (b : Nat) (E : List Snp) : Prop := w.heap[b]? = some (.map (entsL E).toArray E.length)
/-- .. are o's, in whatever order. -/
def SMap (w : World) (b : Nat) (o : List Snp) : Prop := ∃ E : List Snp, SMapE w b E ∧ E.Perm o ∧ (namesR o).Nodup
theorem SMap.made (w : World) : SMap (w.alloc (.map #[] 0)) w.heap.size [] := ⟨[], heap_alloc_new _ _, List.Perm.refl _, by simp [namesR]⟩
theorem SMap.lt {w : World} {b : Nat} {o : List Snp} (h : SMap w b o) : b < w.heap.size := by obtain ⟨E, h, _⟩ := h; exact heap_lt h
theorem SMap.block {w w' : World} {b : Nat} {o : List Snp} (h : SMap w b o) (hb : w'.heap[b]? = w.heap[b]?) : SMap w' b o := by
  obtain ⟨E, h1, h2⟩ := h
  exact ⟨E, hb.trans h1, h2⟩
theorem SMap.kept {w w' : World} {b : Nat} {o : List Snp} (h : SMap w b o) (hb : Below w.heap.size w w') : SMap w' b o := h.block (hb.block b h.lt)

theorem sstr_eq (a b : List UInt8) : ((⟨a.toArray⟩ : ByteArray) == ⟨b.toArray⟩) = decide (a = b) := by
  rw [beq_toListBytes, ByteArray.toList_eq, ByteArray.toList_eq, Bool.eq_iff_iff, beq_iff_eq, decide_eq_true_eq]
theorem findNow_ents (k : List UInt8) : ∀ (E : List Snp) (i j : Nat), ∃ n, Instr.findNow .string (S k) ((E.zipIdx i).map fun p => (⟨S p.1.1, S p.1.2, p.2⟩ : MapEntry)) j = some ((findR E k).map fun r => (n, S r))
  | [], i, j => ⟨0, rfl⟩
  | x :: E, i, j => by
    obtain ⟨n, hn⟩ := findNow_ents k E (i + 1) (j + 1)
    rw [List.zipIdx_cons, List.map_cons]
    unfold Instr.findNow
    simp only [Instr.sameNow, sstr_eq]
    by_cases h : k = x.1
    · refine ⟨j, ?_⟩
      subst h
      simp [findR]
    · refine ⟨n, ?_⟩
      rw [decide_eq_false h]
      simp only
      rw [hn]
      have : ¬ x.1 = k := fun e => h e.symm
      simp [findR, this]
theorem findR_mem {E : List Snp} {k r : List UInt8} (h : findR E k = some r) : (k, r) ∈ E := by
  unfold findR at h
  rw [Option.map_eq_some_iff] at h
  obtain ⟨x, hx, rfl⟩ := h
  have h1 := List.find?_some hx
  rw [beq_iff_eq] at h1
  rw [← h1]
  exact List.mem_of_find?_eq_some hx
theorem findR_of_mem : ∀ {E : List Snp} {k r : List UInt8}, (namesR E).Nodup → (k, r) ∈ E → findR E k = some r
  | x :: E, k, r, hn, h => by
    have h2 := List.nodup_cons.1 (show (x.1 :: namesR E).Nodup from hn)
    rcases List.mem_cons.1 h with rfl | h
    · simp [findR]
    · have hne : ¬ x.1 = k := by
        rintro rfl
        exact h2.1 (List.mem_map.2 ⟨_, h, rfl⟩)
      have := findR_of_mem h2.2 h
      unfold findR at *
      rw [List.find?_cons_of_neg (by simpa using hne)]
      exact this
theorem findR_perm {E o : List Snp} (h : E.Perm o) (hn : (namesR o).Nodup) (k : List UInt8) : findR E k = findR o k := by
  have hn2 : (namesR E).Nodup := (List.Perm.nodup_iff (h.map _)).2 hn
  cases ho : findR o k with
  | some r => exact findR_of_mem hn2 (h.mem_iff.2 (findR_mem ho))
  | none =>
    cases he : findR E k with
    | none => rfl
    | some r =>
      have := findR_of_mem hn (h.mem_iff.1 (findR_mem he))
      rw [ho] at this; cases this

theorem zeroStr (w : World) : (zeroValue 9).run Tryz.prog w = .ok (.string ⟨#[]⟩) w := by kernel_rfl
theorem checkStr (b : Bool) (k : List UInt8) (w : World) : (Instr.checkKey b 10000 9 (S k)).run Tryz.prog w = .ok () w :=
  MapKept.run_checkKey Tryz.underlying9 (by trivial) b 9999
theorem run_findKey {w : World} {E o : List Snp} (h2 : E.Perm o) (h3 : (namesR o).Nodup) (k : List UInt8) :
    ∃ n, (Instr.findKey 9 (S k) (entsL E)).run Tryz.prog w = .ok ((findR o k).map fun r => (n, S r)) w := by
  obtain ⟨n, hn⟩ := findNow_ents k E 0 0
  refine ⟨n, ?_⟩
  rw [findR_perm h2 h3] at hn
  unfold entsL
  simp [Instr.findKey, run_underlying Tryz.underlying9, hn]
theorem SMap.look {w : World} {b : Nat} {o : List Snp} (h : SMap w b o) (k : List UInt8) :
    (Instr.lookup 53 (.map (some b)) (S k) true).run Tryz.prog w = .ok (.tuple #[S (rootOf (findR o k)), .bool (findR o k).isSome]) w := by
  obtain ⟨E, h1, h2, h3⟩ := h
  obtain ⟨n, hn⟩ := run_findKey (w := w) h2 h3 k
  have he : (Instr.checkKey (entsL E).toArray.isEmpty 10000 9 (S k)).run Tryz.prog w = .ok () w := checkStr _ k w
  cases hf : findR o k with
  | none =>
    rw [hf] at hn
    simp [Instr.lookup, run_underlying Tryz.underlying53, MapKept.run_getObj_map h1, checkStr, hn, rootOf]
  | some r =>
    rw [hf] at hn
    simp [Instr.lookup, run_underlying Tryz.underlying53, MapKept.run_getObj_map h1, checkStr, hn, rootOf]
theorem setBlock_at {w : World} {g : Nat} (h : g < w.heap.size) (o : Obj) : (setBlock w g o).heap[g]? = some o := by
  show (w.heap.setIfInBounds g o)[g]? = _
  rw [Array.getElem?_setIfInBounds_self]; simp [h]
theorem setBlock_grown (w : World) (g : Nat) (o : Obj) : w.grownBy (setBlock w g o) (some g) :=
  ⟨rfl, rfl, rfl, by simp [setBlock], fun k hk hne => by
    have hne' : k ≠ g := fun e => hne (by rw [e])
    show (w.heap.setIfInBounds g o)[k]? = _
    rw [Array.getElem?_setIfInBounds_ne (fun e => hne' e.symm)]⟩
/-- An entry more, at a key that is not there. -/
theorem SMap.update {w : World} {b : Nat} {o o' : List Snp} (h : SMap w b o) {k : List UInt8} (hk : findR o k = none) (v : List UInt8) (hp : o'.Perm (o ++ [(k, v)])) :
    ∃ w', (Instr.mapUpdate 53 (.map (some b)) (S k) (S v)).run Tryz.prog w = .ok () w' ∧ SMap w' b o' ∧ w.grownBy w' (some b) := by
  obtain ⟨E, h1, h2, h3⟩ := h
  obtain ⟨n, hn⟩ := run_findKey (w := w) h2 h3 k
  rw [hk] at hn
  refine ⟨setBlock w b (.map (entsL (E ++ [(k, v)])).toArray (E ++ [(k, v)]).length), ?_, ⟨E ++ [(k, v)], setBlock_at (heap_lt h1) _, ?_, ?_⟩, setBlock_grown _ _ _⟩
  · rw [entsL_snoc]
    simp [Instr.mapUpdate, run_underlying Tryz.underlying53, MapKept.run_getObj_map h1, checkStr, hn]
    simp only [SMapE] at h1
    simp [setObj, Sem.run, h1, setBlock]
  · exact (h2.append_right _).trans hp.symm
  · have hnk : k ∉ namesR o := by
      intro hm
      obtain ⟨⟨a, r⟩, hx, rfl⟩ := List.mem_map.1 hm
      rw [findR_of_mem h3 hx] at hk; cases hk
    have hp2 : (namesR o').Perm (namesR o ++ [k]) := by
      have := hp.map (·.1)
      rw [List.map_append] at this
      exact this
    rw [hp2.nodup_iff, List.nodup_append]
    exact ⟨h3, by simp, fun a ha c hc => by rw [List.mem_singleton.1 hc]; rintro rfl; exact hnk ha⟩
/-- .. at the operation. -/
theorem wpList_smap_update {P : Program} (hP : P = Tryz.prog) (w : World) {ops : Array Oper} {rest : List Oper} {o : Oper} {a : Act} {Q : Exit → Act → World → Prop}
    (hg : o.guard = none) (m x v : Operand) (hop : o.op = Op.mapUpdate 53 m x v ∨ o.op = Op.insert 53 m x v)
    {mb : Nat} {l l' : List Snp} (h : SMap w mb l) (k y : List UInt8) (hk : findR l k = none) (hp : l'.Perm (l ++ [(k, y)])) (hm : a.eval m = .map (some mb)) (hx : a.eval x = S k) (hv : a.eval v = S y)
    (hK : ∀ w', SMap w' mb l' → w.grownBy w' (some mb) → wpList P ops Q rest (a.put o.dst undef) w') : wpList P ops Q (o :: rest) a w := by
  subst hP
  refine wpList_plain hg fun K' hK' => ?_
  obtain ⟨w', hrun, r1, r2⟩ := h.update hk y hp
  unfold Oper.wp
  rcases hop with hop | hop
  · simp [execOp, hop, hm, hx, hv, hrun, Result.andThen]
    exact hK' _ _ (hK w' r1 r2)
  · simp [execOp, hop, hm, hx, hv, hrun, Result.andThen]
    exact hK' _ _ (hK w' r1 r2)
end Go.Proofs.YtbmdoekfbkpaeaaGreatDoor
