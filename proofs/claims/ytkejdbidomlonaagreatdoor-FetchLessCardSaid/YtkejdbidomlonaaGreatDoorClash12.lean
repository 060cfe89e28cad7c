/- The reference's Raws and Clash. -/
import Derived.Test.YtkejdbidomlonaaGreatDoorRRaw12
import Derived.Test.YtkejdbidomlonaaGreatDoorJRKey11
namespace Go.Proofs.YtkejdbidomlonaaGreatDoor
open Go.RowKit

set_option maxHeartbeats 4000000 in
set_option maxRecDepth 100000 in
theorem rraws12_walk (x k y z : Nat) (iv : Value) (items : List Itm) (w : World) (hf : FitC x k z) (hpk : 2 ^ k = y) (hrd : Ready (piecesC x k z) items) (hir : ItRow w iv items) (hcnt : (nodesD (piecesC x k z) items 9 []).length ≤ 200000) :
    Calls Tryz.prog 12 #[PrmV x y z, iv] w fun e w' => ∃ v', e = .returned v' ∧ w'.ownsRow w.heap.size 9 1 v' (rawsN (nodesD (piecesC x k z) items 9 [])).length ((rawsN (nodesD (piecesC x k z) items 9 [])).map S) ∧ Below w.heap.size w w' := by
  obtain ⟨w1, hw1, HB1, HC1⟩ : ∃ w1, w1 = w.alloc (.cells #[.int .i64 (x : Nat), .int .i64 (y : Nat), .int .i64 (z : Nat)] 23) ∧ Hid (Below w.heap.size w w1) ∧ Hid (w1.heap[w.heap.size]? = some (.cells #[.int .i64 (x : Nat), .int .i64 (y : Nat), .int .i64 (z : Nat)] 23 (0, 0))) :=
    ⟨_, rfl, Lib.hid ((Below.refl _ _).alloc (Nat.le_refl _) _), Lib.hid (heap_alloc_new _ _)⟩
  have C := rraw12_walk x k y z iv items w hf hpk hrd hir 9 0 (.slice none 0 0) [] [] w1 HB1.out (World.ownsRow_nil _ _ _ _) rfl rfl (.inl rfl) (by simpa using hcnt)
  have c0 := heap_cell HC1.out (j := 0) (v := .int .i64 (x : Nat)) rfl
  have c1 := heap_cell HC1.out (j := 1) (v := .int .i64 (y : Nat)) rfl
  have c2 := heap_cell HC1.out (j := 2) (v := .int .i64 (z : Nat)) rfl
  obtain ⟨ia, ic, rfl⟩ := row_slice hir
  rw [List.nil_append] at C
  generalize rawsN (nodesD (piecesC x k z) items 9 []) = rs at *
  clear hf hpk hrd hir hcnt
  go_enter Tryz.func12, Tryz.ntmps12
  go_upto_region 1 with fail
  rw [← hw1]
  clear hw1
  go_wp2_with fail
  refine C.mono ?_
  rintro e w2 ⟨v2, rfl, hg⟩
  have HO := Lib.hid hg.own
  have HB2 := Lib.hid (show Below w.heap.size w w2 from hg.base rfl HB1.out HB1.out.size (fun j hj => by simp [Value.ownBlock] at hj))
  clear C hg c0 c1 c2
  go_wp2
  go_ret
  exact ⟨_, rfl, HO.out, HB2.out⟩

/-- What Clash answers. -/
def ClashPost (l : List (List UInt8)) (w : World) (e : Ending) (w' : World) : Prop := ∃ b : Bool, e = .returned (.bool b) ∧ (b = true ↔ ClashP l) ∧ Below w.heap.size w w'
/-- Behind some texts of which no two have one sum: the objects. -/
structure ClashI (t : List (List UInt8)) (o : List Snp) : Prop where
  fit : fit5 (namesR o) = true
  here : ∀ x ∈ t, findR o (shaF x) = some x
  from_ : ∀ y ∈ o, y.2 ∈ t ∧ y.1 = shaF y.2
theorem ClashI.no {t : List (List UInt8)} {o : List Snp} (h : ClashI t o) : ¬ ClashP t := by
  rintro ⟨a, ha, b, hb, hne, he⟩
  have h1 := h.here a ha
  rw [he, h.here b hb] at h1
  injection h1 with h1
  exact hne h1.symm
theorem ClashI.next {t : List (List UInt8)} {o : List Snp} (h : ClashI t o) {x : List UInt8} (hx : findR o (shaF x) = none ∨ findR o (shaF x) = some x) : ClashI (t ++ [x]) (addO o (shaF x, x)) := by
  have hu := fit5_up12 h.fit
  refine ⟨addO_fit h.fit, fun y hy => ?_, fun y hy => ?_⟩
  · unfold addO
    by_cases hs : (findR o (shaF x)).isSome = true
    · rw [if_pos (.inl hs)]
      rcases List.mem_append.1 hy with hy | hy
      · exact h.here y hy
      · rw [List.mem_singleton.1 hy]
        rcases hx with hx | hx
        · rw [hx] at hs; cases hs
        · exact hx
    · rw [if_neg (by rintro (h1 | h1); exact hs h1; exact h1 (shaF_len x))]
      have hn : (shaF x, x).1 ∉ namesR o := by
        intro hm
        rw [findR_is hu] at hs
        exact hs (by simpa using hm)
      obtain ⟨h1, h2⟩ := addO_finds hu hn
      rcases List.mem_append.1 hy with hy | hy
      · have h3 := h.here y hy
        obtain ⟨z, hz, e1, e2⟩ : ∃ z ∈ o, z.1 = shaF y ∧ z.2 = y := by
          unfold findR at h3
          rw [Option.map_eq_some_iff] at h3
          obtain ⟨z, hz, e⟩ := h3
          exact ⟨z, List.mem_of_find?_eq_some hz, by have := List.find?_some hz; simpa using this, e⟩
        have h4 := h2 z hz
        rw [e1, e2] at h4
        exact h4
      · rw [List.mem_singleton.1 hy]; exact h1
  · unfold addO at hy
    split at hy
    · obtain ⟨h1, h2⟩ := h.from_ y hy
      exact ⟨List.mem_append_left _ h1, h2⟩
    · rcases mem_insO.1 hy with rfl | hy
      · exact ⟨List.mem_append_right _ (List.mem_singleton.2 rfl), rfl⟩
      · obtain ⟨h1, h2⟩ := h.from_ y hy
        exact ⟨List.mem_append_left _ h1, h2⟩
theorem ClashI.hit {t : List (List UInt8)} {o : List Snp} (h : ClashI t o) {x r : List UInt8} (hr : findR o (shaF x) = some r) (hne : r ≠ x) {l : List (List UInt8)} (ht : ∀ y ∈ t, y ∈ l) (hx : x ∈ l) : ClashP l := by
  unfold findR at hr
  rw [Option.map_eq_some_iff] at hr
  obtain ⟨z, hz, e⟩ := hr
  have h1 := List.mem_of_find?_eq_some hz
  have h2 : z.1 = shaF x := by have := List.find?_some hz; simpa using this
  obtain ⟨h3, h4⟩ := h.from_ z h1
  rw [e] at h3 h4
  exact ⟨r, ht r h3, x, hx, hne, by rw [← h4, h2]⟩

set_option maxHeartbeats 8000000 in
set_option maxRecDepth 100000 in
theorem rclash12_walk (v : Value) (l : List (List UInt8)) (w : World) (hr : StrRow w v l) (hcnt : l.length ≤ 900000) (hlen : ∀ x ∈ l, x.length ≤ 1100000) :
    Calls Tryz.prog 11 #[v] w (ClashPost l w) := by
  obtain ⟨a, c, rfl, hc, hm, hx⟩ := hr
  have HX := Lib.hid hx
  have HLEN := Lib.hid hlen
  have HYES := Lib.hid (fun (h : ClashP l) (w' : World) (hB : Below w.heap.size w w') => show ClashPost l w (.returned (.bool true)) w' from ⟨true, rfl, ⟨fun _ => h, fun _ => rfl⟩, hB⟩)
  have HNO := Lib.hid (fun (h : ¬ ClashP l) (w' : World) (hB : Below w.heap.size w w') => show ClashPost l w (.returned (.bool false)) w' from ⟨false, rfl, ⟨fun e => (by cases e), fun e => absurd e h⟩, hB⟩)
  clear hx hlen
  go_enter Tryz.func11, Tryz.ntmps11
  go_wp2
  go_loopw [3, 4] (fun ov i wr => ∃ (k : Nat) (o : List Snp), k ≤ l.length ∧ i = .int .i64 k ∧ Hid (ClashI (l.take k) o) ∧ o.length ≤ k ∧ SnpRow wr ov o ∧ Below w.heap.size w wr) (fun _ i _ => l.length - (intOf i).toNat)
  case atStart => exact ⟨0, [], Nat.zero_le _, rfl, Lib.hid ⟨rfl, by simp, by simp⟩, by simp, Row.nil _ _, Below.refl _ _⟩
  case round =>
    obtain ⟨k, o, hk, rfl, HI, hol, hor, hB⟩ := hrel
    have HB := Lib.hid hB
    have HOR := Lib.hid hor
    obtain ⟨oa, oc, rfl⟩ := row_slice hor
    by_cases h1 : k < l.length
    · have h1' : (k : Int) < (l.length : Int) := by omega
      have hx := HX.out
      rcases hx with hx | ⟨b, o2, rfl, hx⟩
      · exfalso; rw [hx] at h1; simp at h1
      have hc1 := cell_below hB (str_cell hx h1)
      have HT := Lib.hid (show l.take (k + 1) = l.take k ++ [l[k]] from List.take_succ_eq_append_getElem h1)
      have HMEM := Lib.hid (show l[k] ∈ l from List.getElem_mem h1)
      have hsl := HLEN.out l[k] HMEM.out
      clear hx hor hB
      generalize l[k] = s at *
      have CS := rsha_walk s wr hsl
      have HNX := Lib.hid (fun (h : findR o (shaF s) = none ∨ findR o (shaF s) = some s) => HI.out.next h)
      have HHIT := Lib.hid (fun (r : List UInt8) (h : findR o (shaF s) = some r) (hne : r ≠ s) => (HI.out.hit h hne (fun y hy => List.mem_of_mem_take hy) HMEM.out : ClashP l))
      obtain ⟨kk, hkk⟩ : ∃ kk, shaF s = kk := ⟨_, rfl⟩
      rw [hkk] at CS HNX HHIT
      clear hkk
      go_wp2_with fail
      refine CS.mono ?_
      rintro e w2 ⟨rfl, hb2⟩
      have HB2 := Lib.hid (below_chain HB.out hb2 HB.out.size)
      have HR2 := Lib.hid (HOR.out.below hb2)
      have hc2 := cell_below hb2 hc1
      have CG := rget_walk (.slice oa o.length oc) o kk w2 HR2.out (by omega)
      clear CS hb2 hc1
      go_wp2_with fail
      refine CG.mono ?_
      rintro e w3 ⟨rfl, hb3⟩
      have HB3 := Lib.hid (below_chain HB2.out hb3 HB2.out.size)
      have HR3 := Lib.hid (HR2.out.below hb3)
      have hc3 := cell_below hb3 hc2
      clear CG hb3 hc2
      have CA := r12add_walk (.slice oa o.length oc) o (kk, s) w3 HR3.out (by omega)
      cases hf : findR o kk with
      | none =>
        have HN := Lib.hid (HNX.out (.inl hf))
        have HL := Lib.hid (addO_len o (kk, s))
        generalize addO o (kk, s) = o' at *
        simp only [rootOf, Option.isSome_none]
        clear HNX HHIT hf
        go_wp2_with fail
        refine CA.mono ?_
        rintro e w4 ⟨v4, rfl, hr4, hb4⟩
        have HR4 := Lib.hid hr4
        have HB4 := Lib.hid (below_chain HB3.out hb4 HB3.out.size)
        clear CA hr4 hb4
        go_wp2
        go_roundw
        case rel => exact ⟨k + 1, o', by omega, by go_num, by rw [HT.out]; exact HN, by have := HL.out; omega, HR4.out, HB4.out⟩
        case measure => simp [intOf]; omega
      | some r =>
        simp only [rootOf, Option.isSome_some]
        by_cases hrs : r = s
        · subst hrs
          have HN := Lib.hid (HNX.out (.inr hf))
          have HL := Lib.hid (addO_len o (kk, r))
          generalize addO o (kk, r) = o' at *
          have hne : (r == r) = true := by simp
          clear HNX HHIT hf
          go_wp2_with fail
          refine CA.mono ?_
          rintro e w4 ⟨v4, rfl, hr4, hb4⟩
          have HR4 := Lib.hid hr4
          have HB4 := Lib.hid (below_chain HB3.out hb4 HB3.out.size)
          clear CA hr4 hb4
          go_wp2
          go_roundw
          case rel => exact ⟨k + 1, o', by omega, by go_num, by rw [HT.out]; exact HN, by have := HL.out; omega, HR4.out, HB4.out⟩
          case measure => simp [intOf]; omega
        · have hne : (r == s) = false := by rw [beq_eq_false_iff_ne]; exact hrs
          have HH := Lib.hid (HHIT.out r hf hrs)
          clear HNX HHIT hf hrs CA
          go_wp2
          go_ret
          exact HYES.out HH.out _ HB3.out
    · have h1' : ¬ (k : Int) < (l.length : Int) := by omega
      have HN := Lib.hid (show ¬ ClashP l by
        have := HI.out.no
        rwa [List.take_of_length_le (by omega)] at this)
      go_wp2
      go_ret
      exact HNO.out HN.out _ HB.out
theorem rawsN_small (l : List Nod) : ∀ x ∈ rawsN l, x.length ≤ 1100000 := by
  intro x hx
  obtain ⟨n, _, rfl⟩ := List.mem_map.1 hx
  have := writeN_len (n := n)
  omega
theorem rawsN_pos {pc : List UInt8 → List (List UInt8)} {items : List Itm} (n : Nat) (d : List UInt8) : 0 < (rawsN (nodesD pc items n d)).length := by
  rw [rawsN_len]
  exact List.length_pos_of_mem (nodesD_top n d)
end Go.Proofs.YtkejdbidomlonaaGreatDoor
