/- slices.IndexFunc and slices.DeleteFunc, at string; the closure by its contract. keys.Of: the set of those keys that are keys. node.Kids: the set of the keys that a node names. -/
import Derived.Test.YtengciicdnkgaaaGreatDoorJKey
import Derived.Test.YtengciicdnkgaaaGreatDoorShelf
import Derived.Sort.OwnSorted
import Derived.Sort.Grow
import Derived.Lib.OwnBridge
import Derived.Test.YtengciicdnkgaaaGreatDoorNodeB
import Derived.Test.YtengciicdnkgaaaGreatDoorJRow
namespace Go.Proofs.YtengciicdnkgaaaGreatDoor
open Go.RowKit

theorem rest1_start {l : List (List UInt8)} {L : List Value} (h : L.take l.length = l.map S) (b : Nat) : (L.drop b).take (l.length - b) = (l.drop b).map S := by
  rw [List.map_drop, ← h, List.drop_take]
theorem head1_start {l : List (List UInt8)} {L : List Value} (h : L.take l.length = l.map S) {b : Nat} (hb : b ≤ l.length) : L.take b = (l.take b).map S := by
  rw [List.map_take, ← h, List.take_take, Nat.min_eq_left hb]
theorem rest1_at {l : List (List UInt8)} {L : List Value} {b : Nat} (hb : b < l.length) (h : (L.drop b).take (l.length - b) = (l.drop b).map S) : L[b]? = some (S l[b]) := by
  have h2 : ((L.drop b).take (l.length - b))[0]? = some (S l[b]) := by rw [h]; simp [hb]
  rw [List.getElem?_take_of_lt (by omega), List.getElem?_drop] at h2
  simpa using h2
theorem rest1_on {l : List (List UInt8)} {L : List Value} {b : Nat} (h : (L.drop b).take (l.length - b) = (l.drop b).map S) : (L.drop (b + 1)).take (l.length - (b + 1)) = (l.drop (b + 1)).map S := by
  have h2 := congrArg (List.drop 1) h
  rw [List.drop_take, List.drop_drop, ← List.map_drop, List.drop_drop] at h2
  rw [← h2]
  congr 1
section
variable {P : Program}
theorem wpList_clear_1 {w : World} {ops : Array Oper} {rest : List Oper} {o : Oper} {a : Act} {Q : Exit → Act → World → Prop} (hgd : o.guard = none) (s : Operand) (t : TypeId)
    (ho : o.op = .call { callee := .builtin .clear, args := #[s], argTypes := #[t] }) (e : TypeId) (i0 : TypeInfo) (z : Value) (ht : P.underlying t = some (.slice e)) (hi : P.info? e = some i0) (hz : i0.zero = some z) (hk : z.cells.size = 1) (h1 : ∀ v ∈ z.cells, v.oneCell' = true)
    (g off n c : Nat) (hs : a.eval s = .slice (some ⟨g, off, none⟩) n c) (cur : List Value) (et : TypeId) (hg : w.heap[g]? = some (.cells cur.toArray et (0, 0))) (hfit : off + n ≤ cur.length) (B : Nat) (w0 : World) (hb : Below B w0 w) (hBg : B ≤ g)
    (h : ∀ w' zs, zs.length = n → Hid (w'.heap[g]? = some (.cells (splice cur off zs).toArray et (0, 0))) → Below B w0 w' → wpList P ops Q rest (a.put o.dst (.tuple #[])) w') :
    wpList P ops Q (o :: rest) a w :=
  wpList_clear_k 1 hgd s t ho e i0 z ht hi hz hk h1 g off n c hs cur et hg (by omega) (by decide) B w0 hb hBg (fun w' zs hl => h w' zs (by omega))
end

theorem delInfoStr : (Tryz.prog.info? 9).map (fun i => (i.zero, i.size, i.bytes)) = some (some (.string ⟨#[]⟩), 1, 16) := by kernel_rfl

set_option maxHeartbeats 2000000 in
set_option maxRecDepth 100000 in
theorem idxStr_walk (g0 : Nat) (caps : Array Value) (p : (List UInt8) → Bool) (a : Option Addr) (c : Nat) (l : List (List UInt8)) (w : World) (hr : StrRow w (.slice a l.length c) l) (hcnt : l.length ≤ 1100000)
    (hen : ∀ args w, (callFunc g0 args).run Tryz.prog w = .ok (.enter g0 args) w)
    (hp : ∀ x w', Below w.heap.size w w' → Calls Tryz.prog g0 (#[S x] ++ caps) w' fun e w'' => e = .returned (.bool (p x)) ∧ Below w'.heap.size w' w'') :
    Calls Tryz.prog 58 #[.slice a l.length c, .func (.func g0) #[] caps] w fun e w' => e = .returned (.int .i64 (idxP p l)) ∧ Below w.heap.size w w' := by
  obtain ⟨a', c', hv, hc, hm, hx⟩ := hr
  cases hv
  have HX := Lib.hid hx
  have HP := Lib.hid hp
  clear hx hp
  go_enter Tryz.func58, Tryz.ntmps58
  go_wp2
  go_loopw [8] (fun i wr => ∃ k : Nat, k ≤ l.length ∧ i = .int .i64 k ∧ (∀ x ∈ l.take k, p x = false) ∧ Below w.heap.size w wr) (fun i _ => l.length - (intOf i).toNat)
  case atStart => exact ⟨0, Nat.zero_le _, rfl, by simp, Below.refl _ _⟩
  case round =>
    obtain ⟨k, hk, rfl, hall, hB⟩ := hrel
    have HALL := Lib.hid hall
    have HB := Lib.hid hB
    clear hall
    by_cases h1 : k < l.length
    · have hx := HX.out
      rcases hx with hx | ⟨b, o, rfl, hx⟩
      · exfalso; rw [hx] at h1; simp at h1
      have hx1 := str_cell hx h1
      have HE := Lib.hid (fun h => idxP_at h1 HALL.out h)
      have HN := Lib.hid (fun h => none_step h1 HALL.out h)
      clear hx
      generalize l[k] = y at *
      have CL := fun w' h => HP.out y w' h
      obtain ⟨qb, hqb⟩ : ∃ qb, p y = qb := ⟨_, rfl⟩
      rw [hqb] at CL HE HN
      clear hqb
      have hc1 := cell_below hB hx1; clear hx1
      have h1' : (k : Int) < (l.length : Int) := by omega
      have CL2 := CL wr hB
      clear hB CL
      cases qb with
      | true =>
        have HF := Lib.hid (HE.out rfl)
        clear HE HN
        go_wp2_with (refine CL2.mono ?_; rintro e w1 ⟨rfl, hb1⟩)
        go_ret
        exact ⟨by rw [HF.out]; rfl, below_chain HB.out hb1 HB.out.size⟩
      | false =>
        have HF := Lib.hid (HN.out rfl)
        clear HE HN
        go_wp2_with (refine CL2.mono ?_; rintro e w1 ⟨rfl, hb1⟩)
        go_roundw
        case rel => exact ⟨k + 1, by omega, by go_num, HF.out, below_chain HB.out hb1 HB.out.size⟩
        case measure => simp [intOf]; omega
    · have h1' : ¬ (k : Int) < (l.length : Int) := by omega
      have HF := Lib.hid (show idxP p l = -1 from idxP_none (by have := HALL.out; rwa [List.take_of_length_le (by omega)] at this))
      go_wp2
      go_ret
      exact ⟨by rw [HF.out]; rfl, HB.out⟩

set_option maxHeartbeats 4000000 in
set_option maxRecDepth 100000 in
theorem delStr_walk (g0 : Nat) (caps : Array Value) (p : (List UInt8) → Bool) (B : Nat) (v : Value) (l : List (List UInt8)) (w : World) (hown : w.ownsRow B 9 1 v l.length (l.map S)) (hcnt : l.length ≤ 1100000) (hB : B ≤ w.heap.size)
    (hen : ∀ args w, (callFunc g0 args).run Tryz.prog w = .ok (.enter g0 args) w) (hrg : StrRow w v l)
    (hp : ∀ x w', Below B w w' → Calls Tryz.prog g0 (#[S x] ++ caps) w' fun e w'' => e = .returned (.bool (p x)) ∧ Below w'.heap.size w' w'') :
    Calls Tryz.prog 45 #[v, .func (.func g0) #[] caps] w fun e w' => ∃ v', e = .returned v' ∧ w'.ownsRow B 9 1 v' (l.filter (fun x => !p x)).length ((l.filter (fun x => !p x)).map S) ∧ Below B w w' := by
  obtain ⟨i0, hi0, hz0, hz1, hz2⟩ := info_parts delInfoStr
  obtain ⟨av, cv, rfl, _, hcm, hxx⟩ := hrg
  have CI := idxStr_walk g0 caps p av cv l w ⟨av, cv, rfl, by assumption, hcm, hxx⟩ hcnt hen (fun x w' h => hp x w' (h.mono hB))
  have HOWN := Lib.hid hown
  have HP := Lib.hid hp
  have hown2 := hown.2
  clear hxx hown hp
  rcases idxP_cases p l with ⟨e1, hall⟩ | ⟨k0, hk0, e1, hall, hpk⟩
  · have HF := Lib.hid (filter_all hall)
    rw [e1] at CI
    clear hall e1 hown2
    go_enter Tryz.func45, Tryz.ntmps45
    go_wp2_with (go_at_call 58; refine (CI).mono ?_; rintro e w1 ⟨rfl, hb1⟩)
    go_ret
    refine ⟨_, rfl, ?_, hb1.mono hB⟩
    rw [HF.out]
    obtain ⟨hl, ho⟩ := HOWN.out
    refine ⟨hl, ?_⟩
    rcases ho with ⟨h1, h2⟩ | ⟨g, cap, cur, h1, h2, h3, h4⟩
    · exact .inl ⟨h1, h2⟩
    · refine .inr ⟨g, cap, cur, h1, h2, (hb1.block g ?_).trans h3, h4⟩
      exact (HOWN.out.lt g (by rw [h1]; rfl)).2
  · rw [e1] at CI
    rcases hown2 with ⟨h1, h2⟩ | ⟨g, cap, cur0, hv, hbg, hg, hnc, hcapm, hcs, htake⟩
    · exfalso; omega
    cases hv
    rw [Nat.mul_one] at hcs htake
    have hgw : g < w.heap.size := (HOWN.out.lt g rfl).2
    have hcl0 := HOWN.out.1
    have HK0 := Lib.hid (show (l.take (k0 + 1)).filter (fun x => !p x) = l.take k0 by
      rw [filter_step hk0, hpk, filter_all hall]; simp)
    have HD0 := Lib.hid (rest1_start htake (k0 + 1))
    have HT0 := Lib.hid (head1_start htake (b := k0) (by omega))
    clear hall hpk e1 htake HOWN hcl0
    have hkm : ((k0 : Int) == -1) = false := by rw [beq_eq_false_iff_ne]; omega
    go_enter Tryz.func45, Tryz.ntmps45
    go_wp2_with (go_at_call 58; refine (CI).mono ?_; rintro e w1 ⟨rfl, hb1⟩)
    have hg1 := (hb1.block g hgw).trans hg
    have hB1 := hb1.mono hB
    clear hb1 hg CI
    go_loopw [5, 6] (fun i j wr => ∃ (a b : Nat) (cur : Array Value), a < b ∧ b ≤ l.length ∧ i = .int .i64 a ∧ j = .int .i64 b ∧ wr.heap[g]? = some (.cells cur 9 (0, 0)) ∧ cur.size = cv ∧ ((l.take b).filter (fun x => !p x)).length = a ∧ cur.toList.take (a) = ((l.take b).filter (fun x => !p x)).map S ∧ (cur.toList.drop (b)).take ((l.length - b)) = (l.drop b).map S ∧ Below B w wr) (fun _ j _ => l.length - (intOf j).toNat)
    case atStart => exact ⟨k0, k0 + 1, cur0, by omega, by omega, by go_num, by go_num, hg1, hcs, by rw [HK0.out, List.length_take]; omega, by rw [HK0.out]; exact HT0.out, HD0.out, hB1⟩
    case round =>
      obtain ⟨a1, b1, cur, hab, hbl, rfl, rfl, hg2, hcs2, hfl, hft, hfd, hBw⟩ := hrel
      have HFL := Lib.hid hfl
      have HFT := Lib.hid hft
      have HFD := Lib.hid hfd
      have hszw := hBw.size
      have hgl := heap_lt hg2
      have hB2 : B ≤ wr.heap.size := by omega
      by_cases h1 : b1 < l.length
      · have hcel := rest1_at h1 hfd
        have HON := Lib.hid (rest1_on hfd)
        have HST := Lib.hid (filter_step (p := p) h1)
        clear hfl hft hfd
        generalize l[b1] = y at *
        obtain ⟨qb, hqb⟩ : ∃ qb, p y = qb := ⟨_, rfl⟩
        have CL := fun w' h => HP.out y w' h
        rw [hqb] at CL HST
        clear hqb
        have hc1 := heap_cell hg2 (j := b1) (v := S y) (by simpa using hcel)
        have CL2 := CL wr hBw
        clear CL hcel
        have h1' : (b1 : Int) < (l.length : Int) := by omega
        cases qb with
        | true =>
          have HS := Lib.hid (show (l.take (b1 + 1)).filter (fun x => !p x) = (l.take b1).filter (fun x => !p x) by rw [HST.out]; simp)
          clear HST
          go_wp2_with (refine CL2.mono ?_; rintro e w2 ⟨rfl, hb2⟩)
          have hg3 := heap_later hg2 hb2 (by omega)
          have hb3 : Below B w w2 := hBw.trans (hb2.mono (by omega))
          clear hb2
          go_roundw
          case rel => exact ⟨a1, b1 + 1, cur, by omega, by omega, rfl, by go_num, hg3, hcs2, by rw [HS.out]; exact HFL.out, by rw [HS.out]; exact HFT.out, HON.out, hb3⟩
          case measure => simp [intOf]; omega
        | false =>
          have HS := Lib.hid (show (l.take (b1 + 1)).filter (fun x => !p x) = (l.take b1).filter (fun x => !p x) ++ [y] by rw [HST.out]; simp)
          clear HST
          have hab2 : (a1 : Int) < (l.length : Int) := by omega
          go_wp2_with (refine CL2.mono ?_; rintro e w2 ⟨rfl, hb2⟩; have hg3 := heap_later hg2 hb2 (by omega); have hf1 := heap_free hg3; obtain ⟨u1, hu1⟩ := heap_has hg3 (j := a1) (by omega))
          have hb3 : Below B w w2 := hBw.trans (hb2.mono (by omega))
          clear hb2
          go_roundw
          case rel =>
            have hsp : (cur.setIfInBounds a1 (S y)).toList = splice cur.toList a1 [S y] := by
              have := setAll_splice [S y] cur a1 (by simp; omega); simpa [setAll] using this
            refine ⟨a1 + 1, b1 + 1, cur.setIfInBounds a1 (S y), by omega, by omega, by go_num, by go_num, heap_set_cell hg3 _, by simpa using hcs2, ?_, ?_, ?_, hb3.setCell hbg _⟩
            · rw [HS.out, List.length_append, HFL.out]; rfl
            · rw [HS.out, List.map_append, ← HFT.out, hsp, show a1 + 1 = a1 + ([S y] : List Value).length from rfl, take_splice (by simp; omega)]; simp
            · rw [hsp, drop_splice (by simp; omega) (by simp; omega)]; exact HON.out
          case measure => simp [intOf]; omega
      · obtain rfl : b1 = l.length := by omega
        have h1' : ¬ (l.length : Int) < (l.length : Int) := by omega
        rw [List.take_of_length_le (Nat.le_refl _)] at hfl hft
        have HFL := Lib.hid hfl
        have HFT := Lib.hid hft
        clear hfl hft hfd
        have hcv : ¬ cv = a1 := by omega
        have hab2 : (a1 : Int) ≤ (l.length : Int) := by omega
        have HG2 := Lib.hid (show wr.heap[g]? = some (.cells cur.toList.toArray 9 (0, 0)) by simpa using hg2)
        have HFIT := Lib.hid (show a1 + (l.length - a1) ≤ cur.toList.length by simp; omega)
        have HZ1 := Lib.hid (show ∀ v ∈ (.string ⟨#[]⟩ : Value).cells, v.oneCell' = true by decide)
        have HZ0 := Lib.hid (show (.string ⟨#[]⟩ : Value).cells.size = 1 by rfl)
        go_wp2_with (with_reducible refine wpList_clear_1 rfl (.tmp 38) 22 rfl 9 i0 (.string ⟨#[]⟩) Tryz.underlying22 hi0 hz0 HZ0.out HZ1.out g a1 (l.length - a1) (cv - a1) rfl cur.toList 9 HG2.out HFIT.out B w hBw hbg ?_)
        intro w2 zs hzl hg3 hb3
        go_wp2
        go_ret
        refine ⟨_, rfl, ⟨by simp, .inr ⟨g, cv, _, by rw [HFL.out]; rfl, hbg, hg3.out, ?_, hcm, ?_, ?_⟩⟩, hb3⟩
        · rw [HFL.out]; omega
        · rw [List.size_toArray, length_splice _ _ _ (by simp; omega)]; simpa using hcs2
        · rw [Nat.mul_one, HFL.out, List.toList_toArray, ← HFT.out]
          unfold splice
          rw [List.take_append_of_le_length (by simp; omega), List.take_take, Nat.min_self]
end Go.Proofs.YtengciicdnkgaaaGreatDoor

namespace Go.Proofs.YtengciicdnkgaaaGreatDoor
open Go.RowKit

theorem kclone_walk (v : Value) (l : List (List UInt8)) (w : World) (hr : StrRow w v l) (hcnt : l.length ≤ 1100000) :
    Calls Tryz.prog 27 #[v] w fun e w' => ∃ v', e = .returned v' ∧ w'.ownsRow w.heap.size 9 1 v' l.length (l.map S) ∧ Below w.heap.size w w' := by
  obtain ⟨a, c, rfl, hc, hm, hx⟩ := hr
  rcases hx with rfl | ⟨b, o, rfl, hx⟩
  · cases a with
    | none => exact (Tryz.slices_Clone_string_nil _ _ w).mono fun e w' ⟨h1, h2⟩ => ⟨_, h1, by rw [h2]; exact World.ownsRow_nil _ _ _ _, by rw [h2]; exact Below.refl _ _⟩
    | some a => exact (Tryz.slices_Clone_string_zero a _ w).mono fun e w' ⟨v', h1, h2, _, h3⟩ => ⟨v', h1, h2, h3⟩
  · refine (Tryz.slices_Clone_string b o l.length c (l.map fun x => ⟨x.toArray⟩) w (by simp) (by omega) (fun j hj => ?_)).mono fun e w' ⟨v', h1, h2, _, h3⟩ => ⟨v', h1, ?_, h3⟩
    · have hj2 : j < l.length := by simpa using hj
      have h := hx j l[j] (by simp [hj2])
      rw [h]
      simp [List.getD, hj2, S]
    · have e : (List.take l.length (l.map fun x => (⟨x.toArray⟩ : ByteArray))).map Value.string = l.map S := by
        rw [List.take_of_length_le (by simp), List.map_map]; rfl
      rwa [e] at h2

/-- What stands behind the sort and the compaction: the set, in the same cells. -/
theorem ksort_walk (B : Nat) (v : Value) (l : List (List UInt8)) (w : World) (hown : w.ownsRow B 9 1 v l.length (l.map S)) (hB : B ≤ w.heap.size) (hcnt : l.length ≤ 1100000) :
    Calls Tryz.prog 47 #[v] w fun e w' => e = .returned (.tuple #[]) ∧ w'.ownsRow B 9 1 v l.length ((l.mergeSort fun x y => decide (x ≤ y)).map S) ∧ Below B w w' := by
  rcases hown.2 with ⟨rfl, h2⟩ | ⟨g, cap, cur, rfl, hbg, hg, hnc, hcm, hcs, htk⟩
  · have hl : l = [] := by
      cases l with
      | nil => rfl
      | cons => simp at h2
    subst hl
    exact (Tryz.slices_Sort_string_none none 0 w).mono fun e w' ⟨h1, h3⟩ => ⟨h1, by rw [h3]; simpa using hown, by rw [h3]; exact Below.refl _ _⟩
  · have hgw : g < w.heap.size := heap_lt hg
    have hH : Go.Sort.Holds encStr w g 0 l.toArray := holds_of_block hg (by rw [Nat.mul_one] at htk; exact htk)
    refine (Tryz.slices_Sort_string g 0 cap l w hH hgw (by omega)).mono fun e w' ⟨h1, n, os, h2⟩ => ⟨h1, ?_, ?_⟩
    · rw [h2]
      exact ownsRow_sorted (List.length_mergeSort l) hbg hg hnc hcm hcs
    · rw [h2]
      exact (Below.refl B w).grown (grownBy_sorted _) hB (fun j hj => by cases hj; exact hbg)
theorem kcompact_walk (B : Nat) (v : Value) (l : List (List UInt8)) (w : World) (hown : w.ownsRow B 9 1 v l.length (l.map S)) (hcnt : l.length ≤ 1100000) :
    Calls Tryz.prog 33 #[v] w fun e w' => ∃ v', e = .returned v' ∧ w'.ownsRow B 9 1 v' (Lib.compact l).length ((Lib.compact l).map S) ∧ Below B w w' := by
  rcases hown.2 with ⟨rfl, h2⟩ | ⟨g, cap, cur, rfl, hbg, hg, hnc, hcm, hcs, htk⟩
  · have hl : l = [] := by
      cases l with
      | nil => rfl
      | cons => simp at h2
    subst hl
    exact (Tryz.slices_Compact_string_empty none 0 w).mono fun e w' ⟨h1, h3⟩ => ⟨_, h1, by rw [h3]; exact World.ownsRow_nil _ _ _ _, by rw [h3]; exact Below.refl _ _⟩
  · have hH : Go.Sort.Holds encStr w g 0 l.toArray := holds_of_block hg (by rw [Nat.mul_one] at htk; exact htk)
    have hle := Lib.compact_length_le l
    refine (Tryz.slices_Compact_string g 0 cap l w hH (by omega) hnc).mono fun e w' ⟨h1, q, h2⟩ => ⟨_, h1, ?_, ?_⟩
    · rw [h2]
      have h3 := Lib.ownsRow_putRow (q := q) (k := (Lib.compact l).length) (ys := Lib.compact l ++ List.replicate (l.length - (Lib.compact l).length) []) hown (by simp; omega) (by omega)
      rw [List.take_left] at h3
      exact h3
    · rw [h2]
      exact Lib.below_putRow (Below.refl B w) hbg

theorem kof1_walk (x : List UInt8) (w : World) : Calls Tryz.prog 46 #[S x] w fun e w' => e = .returned (.bool (!len32 x)) ∧ Below w.heap.size w w' := by
  by_cases h : x.length = 32
  · have h1 : ((x.length : Int) != 32) = false := by rw [bne_eq_false_iff_eq]; omega
    have h2 : Hid ((!len32 x) = false) := Lib.hid (by simp [len32, h])
    clear h
    go_enter Tryz.func46, Tryz.ntmps46
    go_wp2
    go_ret
    exact ⟨by rw [h2.out]; rfl, Below.refl _ _⟩
  · have h1 : ((x.length : Int) != 32) = true := by rw [bne_iff_ne]; omega
    have h2 : Hid ((!len32 x) = true) := Lib.hid (by simp [len32, h])
    clear h
    go_enter Tryz.func46, Tryz.ntmps46
    go_wp2
    go_ret
    exact ⟨by rw [h2.out]; rfl, Below.refl _ _⟩

set_option maxHeartbeats 1000000 in
/-- THE WALK. -/
theorem kof_walk (v : Value) (l : List (List UInt8)) (w : World) (hr : StrRow w v l) (hcnt : l.length ≤ 1100000) :
    Calls Tryz.prog 26 #[v] w fun e w' => ∃ v', e = .returned v' ∧ StrRow w' v' (setOf l) ∧ Below w.heap.size w w' := by
  have C1 := kclone_walk v l w hr hcnt
  have HCNT := Lib.hid hcnt
  have HF := Lib.hid (show l.filter (fun x => !(!len32 x)) = l.filter len32 from by simp)
  have HFL := Lib.hid (Nat.le_trans (List.length_filter_le len32 l) hcnt)
  have HSET := Lib.hid (compact_set l)
  have HSL := Lib.hid (show ((l.filter len32).mergeSort fun x y => decide (x ≤ y)).length = (l.filter len32).length from List.length_mergeSort _)
  clear hr hcnt
  go_enter Tryz.func26, Tryz.ntmps26
  go_wp2_with fail
  refine C1.mono ?_
  rintro e w1 ⟨v1, rfl, ho1, hb1⟩
  have C2 := delStr_walk 46 #[] (fun x => !len32 x) w.heap.size v1 l w1 ho1 HCNT.out hb1.size (enters_of Tryz.func46 (by kernel_rfl) rfl) (StrRow.of_owns ho1) (fun x w' _ => kof1_walk x w')
  rw [HF.out] at C2
  clear C1 ho1
  go_wp2_with fail
  refine C2.mono ?_
  rintro e w2 ⟨v2, rfl, ho2, hb2⟩
  have hB2 := hb1.trans hb2
  have C3 := ksort_walk w.heap.size v2 (l.filter len32) w2 ho2 hB2.size HFL.out
  clear C2 ho2 hb1 hb2
  go_wp2_with fail
  refine C3.mono ?_
  rintro e w3 ⟨rfl, ho3, hb3⟩
  have hB3 := hB2.trans hb3
  have C4 := kcompact_walk w.heap.size v2 ((l.filter len32).mergeSort fun x y => decide (x ≤ y)) w3 (by rw [HSL.out]; exact ho3) (by rw [HSL.out]; exact HFL.out)
  rw [HSET.out] at C4
  clear C3 ho3 hB2 hb3
  go_wp2_with fail
  refine C4.mono ?_
  rintro e w4 ⟨v4, rfl, ho4, hb4⟩
  have HR := Lib.hid (StrRow.of_owns ho4)
  have hB4 := hB3.trans hb4
  clear ho4 hb4 C4
  go_wp2
  go_ret
  exact ⟨_, rfl, HR.out, hB4⟩
end Go.Proofs.YtengciicdnkgaaaGreatDoor

namespace Go.Proofs.YtengciicdnkgaaaGreatDoor
open Go.RowKit

set_option maxHeartbeats 4000000 in
set_option maxRecDepth 100000 in
theorem pkids_walk (vp ve : Value) (n : Nod) (w : World) (hr : NodRow w n vp ve) (hcnt : n.parts.length + n.ents.length ≤ 1100000) :
    Calls Tryz.prog 44 #[NodV n vp ve] w fun e w' => ∃ v', e = .returned v' ∧ StrRow w' v' (kidsN n) ∧ Below w.heap.size w w' := by
  obtain ⟨i0, hi, hz0, hz1, hz2⟩ := info_parts infoStr
  obtain ⟨w1, hw1, HB1, HZ⟩ : ∃ w1, w1 = w.alloc (.cells #[.int .i64 n.kind, S n.data, vp, ve] 54) ∧ Hid (Below w.heap.size w w1) ∧ Hid (w1.heap[w.heap.size]? = some (.cells #[.int .i64 n.kind, S n.data, vp, ve] 54 (0, 0))) :=
    ⟨_, rfl, (Below.refl _ _).alloc (Nat.le_refl _) _, heap_alloc_new _ _⟩
  have HR := Lib.hid hr
  obtain ⟨va, vc, rfl⟩ := row_slice hr.parts
  obtain ⟨ua, uc, rfl⟩ := row_slice hr.ents
  obtain ⟨⟨z0, z1, z2, z3⟩, -, -⟩ := box4 HZ.out
  unfold kidsN
  clear hr
  go_enter Tryz.func44, Tryz.ntmps44
  go_upto_region 1 with fail
  rw [← hw1]
  clear hw1
  go_wp2
  go_loopw [3, 11] (fun v i wr => ∃ (k : Nat) (dn : List (List UInt8)), k ≤ n.parts.length ∧ i = .int .i64 k ∧ dn = (n.parts.take k).map (fun p : Prt => p.1) ∧ dn.length = k ∧ wr.ownsRow w1.heap.size 9 1 v dn.length (dn.map S) ∧ Below w1.heap.size w1 wr) (fun _ i _ => n.parts.length - (intOf i).toNat)
  case atStart => exact ⟨0, [], Nat.zero_le _, rfl, rfl, rfl, World.ownsRow_nil _ _ _ _, Below.refl _ _⟩
  case round =>
    obtain ⟨k, dn, hk, rfl, hdn, hdk, hown, hB⟩ := hrel
    have HDN := Lib.hid hdn
    have HDK := Lib.hid hdk
    have hdl : dn.length ≤ 1100000 := by omega
    clear hdn hdk
    have hsz := hB.size
    have hbb := below_chain HB1.out hB HB1.out.size
    by_cases hlt : k < n.parts.length
    · have hlt' : (k : Int) < (n.parts.length : Int) := by omega
      obtain ⟨a0, c0, hv, -, -, hx⟩ := HR.out.parts
      obtain ⟨g1, g2⟩ : va = a0 ∧ vc = c0 := by cases hv; exact ⟨rfl, rfl⟩
      subst g1 g2
      clear hv
      rcases hx with hx | ⟨b, o, rfl, hx⟩
      · exfalso; rw [hx] at hlt; simp at hlt
      obtain ⟨hc1, hc2⟩ := prt_cells hx hlt
      replace hc1 := cell_below hbb hc1
      replace hc2 := cell_below hbb hc2
      have HTK := Lib.hid (show dn ++ [n.parts[k].1] = (n.parts.take (k + 1)).map (fun p : Prt => p.1) by rw [List.take_succ_eq_append_getElem hlt, List.map_append, HDN.out]; simp)
      clear hx hbb
      generalize n.parts[k] = y at *
      obtain ⟨key, sz⟩ := y
      simp only at hc1 hc2
      go_wp2_with (at_builtin; refine wpList_append_own _ rfl _ _ 22 rfl w1.heap.size 9 i0 (.string ⟨#[]⟩) 1 16 Tryz.underlying22 hi hz0 hz1 hz2 rfl (by decide) _ _ _ rfl ((hown.alloc _).alloc _) ⟨wr.heap.size + 1, 0, none⟩ 1 1 [S key] rfl rfl (new_cell_at (by simp) _ _) (by intro u hu; simp at hu; subst hu; rfl) (by unfold maxLen; omega) (by omega) (by simp; omega) ?_)
      intro v' w2 hown' hgrow _
      have hB2 : Below w1.heap.size w1 w2 := ((hB.alloc hsz _).alloc (by simp; omega) _).grown hgrow (by simp; omega) (fun j hj => (hown.lt j hj).1)
      clear hgrow hown hB hc1 hc2
      go_wp2
      go_roundw
      case rel => exact ⟨k + 1, dn ++ [key], by omega, by go_num, HTK.out, by have := HDK.out; simp; omega, by rw [List.length_append, List.map_append]; exact hown', hB2⟩
      case measure => simp [intOf]; omega
    · have hlt' : ¬ (k : Int) < (n.parts.length : Int) := by omega
      obtain rfl : k = n.parts.length := by omega
      have HDN0 := Lib.hid (show dn = n.parts.map (fun p : Prt => p.1) by rw [HDN.out, List.take_of_length_le (Nat.le_refl _)])
      have HDK0 := HDK
      have HO0 := Lib.hid hown
      have HB0 := Lib.hid hB
      have hz2 := (hB.block _ (heap_lt HZ.out)).trans HZ.out
      obtain ⟨⟨y0, y1, y2, y3⟩, -, -⟩ := box4 hz2
      obtain ⟨dn0, rfl⟩ : ∃ dn0, dn0 = dn := ⟨_, rfl⟩
      clear hown hB hbb z0 z1 z2 z3 HDN HDK hz2
      go_wp2
      go_loopw [3, 24] (fun v i wr => ∃ (k : Nat) (dn : List (List UInt8)), k ≤ n.ents.length ∧ i = .int .i64 k ∧ dn = n.parts.map (fun p : Prt => p.1) ++ (n.ents.take k).map (fun e : Ent => e.2.2.2) ∧ dn.length = n.parts.length + k ∧ wr.ownsRow w1.heap.size 9 1 v dn.length (dn.map S) ∧ Below w1.heap.size w1 wr) (fun _ i _ => n.ents.length - (intOf i).toNat)
      case atStart => exact ⟨0, dn0, Nat.zero_le _, rfl, by rw [HDN0.out]; simp, by rw [HDK0.out]; rfl, HO0.out, HB0.out⟩
      case round =>
        obtain ⟨k, dn, hk, rfl, hdn, hdk, hown, hB⟩ := hrel
        have HDN := Lib.hid hdn
        have HDK := Lib.hid hdk
        have hdl : dn.length ≤ 1100000 := by omega
        clear hdn hdk
        have hsz := hB.size
        have hbb := below_chain HB1.out hB HB1.out.size
        by_cases hlt : k < n.ents.length
        · have hlt' : (k : Int) < (n.ents.length : Int) := by omega
          obtain ⟨a0, c0, hv, -, -, hx⟩ := HR.out.ents
          obtain ⟨g1, g2⟩ : ua = a0 ∧ uc = c0 := by cases hv; exact ⟨rfl, rfl⟩
          subst g1 g2
          clear hv
          rcases hx with hx | ⟨b, o, rfl, hx⟩
          · exfalso; rw [hx] at hlt; simp at hlt
          obtain ⟨hc1, hc2, hc3, hc4⟩ := ent_cells hx hlt
          replace hc1 := cell_below hbb hc1
          replace hc2 := cell_below hbb hc2
          replace hc3 := cell_below hbb hc3
          replace hc4 := cell_below hbb hc4
          have HTK := Lib.hid (show dn ++ [n.ents[k].2.2.2] = n.parts.map (fun p : Prt => p.1) ++ (n.ents.take (k + 1)).map (fun e : Ent => e.2.2.2) by rw [List.take_succ_eq_append_getElem hlt, List.map_append, HDN.out]; simp)
          clear hx hbb
          generalize n.ents[k] = y at *
          obtain ⟨nm, ek, ex, key⟩ := y
          simp only at hc1 hc2 hc3 hc4
          go_wp2_with (at_builtin; refine wpList_append_own _ rfl _ _ 22 rfl w1.heap.size 9 i0 (.string ⟨#[]⟩) 1 16 Tryz.underlying22 hi hz0 hz1 hz2 rfl (by decide) _ _ _ rfl ((hown.alloc _).alloc _) ⟨wr.heap.size + 1, 0, none⟩ 1 1 [S key] rfl rfl (new_cell_at (by simp) _ _) (by intro u hu; simp at hu; subst hu; rfl) (by unfold maxLen; omega) (by omega) (by simp; omega) ?_)
          intro v' w2 hown' hgrow _
          have hB2 : Below w1.heap.size w1 w2 := ((hB.alloc hsz _).alloc (by simp; omega) _).grown hgrow (by simp; omega) (fun j hj => (hown.lt j hj).1)
          clear hgrow hown hB hc1 hc2 hc3 hc4
          go_wp2
          go_roundw
          case rel => exact ⟨k + 1, dn ++ [key], by omega, by go_num, HTK.out, by have := HDK.out; simp; omega, by rw [List.length_append, List.map_append]; exact hown', hB2⟩
          case measure => simp [intOf]; omega
        · have hlt' : ¬ (k : Int) < (n.ents.length : Int) := by omega
          obtain rfl : k = n.ents.length := by omega
          have HTL := Lib.hid (show dn = kidsL n by rw [HDN.out, List.take_of_length_le (Nat.le_refl _)]; rfl)
          have C := kof_walk _ dn wr (StrRow.of_owns hown) hdl
          rw [HTL.out] at C
          have HBB := Lib.hid hbb
          clear hown hB hbb
          go_wp2_with fail
          refine C.mono ?_
          rintro e w3 ⟨v3, rfl, hr3, hb3⟩
          have HR3 := Lib.hid hr3
          clear hr3 C
          go_wp2
          go_ret
          exact ⟨_, rfl, HR3.out, below_chain HBB.out hb3 HBB.out.size⟩
end Go.Proofs.YtengciicdnkgaaaGreatDoor
