/- slices.SortFunc at rows of objects: laid. cmp.Compare at texts. The comparison that dag.Build hands to the sort. The sort of dag.Build's rows. The sort of dag.Build's rows: from the row's own block. dag.Build, whole. Chapter 12's example, where the empty tree's objects are those of any tree. Trees, in plain words: places in the order of paths; what the laws of chapter 10 say. No program in sight. -/
import Derived.Shelf.SlSortCmp.WholeK
import Derived.Shelf.Lay
import Derived.Ground.SlsfProg
import Derived.Test.YtbmdoekfbkpaeaaGreatDoorJCollM
import Derived.Test.YtbmdoekfbkpaeaaGreatDoorJRKey11
import Derived.Test.YtbmdoekfbkpaeaaGreatDoorJTreePlain
namespace Go.Proofs.YtbmdoekfbkpaeaaGreatDoor
open Go.RowKit Go.Shelf Go.Lib Go.Sort
shelf_lay_g SlLaysF0.n6 Slsf 6 at Tryz 23 as sortObjLay
end Go.Proofs.YtbmdoekfbkpaeaaGreatDoor

namespace Go.Proofs.YtbmdoekfbkpaeaaGreatDoor
open Go.RowKit

theorem isnan_walk (p : List UInt8) (w : World) : Calls Tryz.prog 48 #[S p] w fun e w' => e = .returned (.bool false) ∧ w' = w := by
  have hpp : (p == p) = true := by simp
  go_enter Tryz.func48, Tryz.ntmps48
  go_wp2
  go_ret
  exact ⟨rfl, rfl⟩

set_option maxHeartbeats 400000 in
theorem compare_walk (p n : List UInt8) (w : World) : Calls Tryz.prog 25 #[S p, S n] w fun e w' => e = .returned (.int .i64 (cmpS p n)) ∧ w' = w := by
  rcases three_ways p n with ⟨h1, _, h2, h3, h4⟩ | ⟨h1, rfl, h2, h3, h4⟩ | ⟨h1, _, h2, h3, h4⟩
  all_goals
    have H1 := Lib.hid h1
    rw [H1.out]
    clear h1
    go_enter Tryz.func25, Tryz.ntmps25
    go_wp2_with (go_at_call 48; refine (isnan_walk _ _).mono ?_; rintro e w1 ⟨rfl, rfl⟩)
    go_ret
    exact ⟨rfl, rfl⟩

end Go.Proofs.YtbmdoekfbkpaeaaGreatDoor

namespace Go.Proofs.YtbmdoekfbkpaeaaGreatDoor
open Go.RowKit Go.Shelf Go.Lib Go.Sort

def encO (x : Snp) : List Value := [S x.1, S x.2]
theorem clos_walk (x y : Snp) (W : World) : Calls Tryz.prog 24 #[.agg #[S x.1, S x.2], .agg #[S y.1, S y.2]] W fun e w' => e = .returned (.int .i64 (cmpS x.1 y.1)) ∧ ∃ q os', w' = grow (W.drewN q) os' := by
  have C := fun W' => compare_walk x.1 y.1 W'
  go_enter Tryz.func24, Tryz.ntmps24
  go_wp2_with (go_at_call 25; refine (C _).mono ?_; rintro e w1 ⟨rfl, rfl⟩)
  go_ret
  exact ⟨rfl, 0, _, by rw [alloc_eq_grow, alloc_eq_grow, grow_grow]; rfl⟩
theorem closLays (blk off size : Nat) (w : World) : CmpLays Tryz.prog 24 #[] encO 2 (fun x y : Snp => cmpS x.1 y.1) blk off size w :=
  fun _ _ _ _ x y => clos_walk x y _
end Go.Proofs.YtbmdoekfbkpaeaaGreatDoor

namespace Go.Proofs.YtbmdoekfbkpaeaaGreatDoor
open Go.RowKit Go.Shelf Go.Lib Go.Sort

theorem ltO (x y : Snp) : ltOf (fun x y : Snp => cmpS x.1 y.1) x y = decide (x.1 < y.1) := by
  unfold ltOf cmpS
  by_cases h1 : x.1 < y.1
  · simp [h1]
  · by_cases h2 : y.1 < x.1 <;> simp [h1, h2]
theorem swoO : SWO (ltOf fun x y : Snp => cmpS x.1 y.1) where
  irrefl x := by rw [ltO]; simp
  trans x y z h1 h2 := by rw [ltO] at *; simp at *; exact List.lt_trans h1 h2
  ntrans x y z h1 h2 := by rw [ltO] at *; simp at *; exact List.le_trans h2 h1
theorem sortO_walk (g c : Nat) (d : Array Snp) (w : World) (hH : HoldsK encO 2 w g 0 d) (hblk : g < w.heap.size) (hsz : d.size < 4611686018427387904) :
    Calls Tryz.prog 23 #[.slice (some ⟨g, 0, none⟩) d.size c, .func (.func 24) #[] #[]] w fun e w' => e = .returned (.tuple #[]) ∧ ∃ d' n os, PermIn 0 d.size d d' ∧ SortedIn (ltOf fun x y : Snp => cmpS x.1 y.1) 0 d.size d' ∧ w' = sortWorldK encO 2 w g 0 n d' os := by
  have eg : ∀ args w, (callFunc 24 args).run Tryz.prog w = .ok (.enter 24 args) w := enters_of Tryz.func24 (by kernel_rfl) rfl
  exact AnyQ.slices_SortFunc sortObjLay 2 Tryz.isAgg34 Tryz.sizeOf34 encO (fun _ => rfl) (fun x v hv => by simp [encO] at hv; rcases hv with rfl | rfl <;> rfl) (fun x y => cmpS x.1 y.1) swoO 24 #[] g 0 c d w eg (closLays g 0 d.size w) hH hblk hsz
theorem up_of_sorted {d : Array Snp} (hs : SortedIn (ltOf fun x y : Snp => cmpS x.1 y.1) 0 d.size d) (hn : (namesR d.toList).Nodup) : upS (namesR d.toList) := by
  unfold upS
  rw [List.pairwise_iff_getElem]
  intro i j hi hj hij
  have hi2 : i < d.size := by simpa [namesR] using hi
  have hj2 : j < d.size := by simpa [namesR] using hj
  have h1 := hs i j (Nat.zero_le _) hij hj2
  rw [ltO, getElem!_pos d i hi2, getElem!_pos d j hj2, decide_eq_false_iff_not] at h1
  have hne : (namesR d.toList)[i] ≠ (namesR d.toList)[j] := List.pairwise_iff_getElem.1 hn i j hi hj hij
  have e1 : (namesR d.toList)[i] = d[i].1 := by simp [namesR]
  have e2 : (namesR d.toList)[j] = d[j].1 := by simp [namesR]
  rw [e1, e2] at hne ⊢
  rcases three_ways d[i].1 d[j].1 with h | h | h
  · exact h.2.1
  · exact absurd h.2.1 hne
  · exact absurd h.2.1 h1
end Go.Proofs.YtbmdoekfbkpaeaaGreatDoor

namespace Go.Proofs.YtbmdoekfbkpaeaaGreatDoor
open Go.RowKit Go.Shelf Go.Lib Go.Sort

theorem holds_of_own {W : World} {B g c e : Nat} {C : List Snp} (h : W.ownsRow B e 2 (.slice (some ⟨g, 0, none⟩) C.length c) C.length (C.flatMap snpC)) : HoldsK encO 2 W g 0 C.toArray ∧ g < W.heap.size ∧ B ≤ g := by
  have hlt := h.lt g rfl
  refine ⟨?_, hlt.2, hlt.1⟩
  rcases h.2 with ⟨hv, _⟩ | ⟨g2, cap, cur, hv, _, hh, hc, hm, hs, ht⟩
  · cases hv
  · cases hv
    intro j hj
    rw [size_flatK] at hj
    have hj2 : j / 2 < C.length := by have := hj; simp at this; omega
    have hx : C[j / 2]? = some C[j / 2] := List.getElem?_eq_getElem hj2
    obtain ⟨u, hu⟩ : ∃ u, (snpC C[j / 2])[j % 2]? = some u := by
      have : j % 2 < 2 := Nat.mod_lt _ (by decide)
      exact ⟨_, List.getElem?_eq_getElem (by simp [snpC]; omega)⟩
    have h1 := flat_at C (j / 2) _ (j % 2) u hx hu
    have h2 : j / 2 * (snpC C[j / 2]).length + j % 2 = j := by simp [snpC]; omega
    rw [h2] at h1
    have h3 : cur[j]? = some u := by
      have : cur.toList[j]? = some u := by
        rw [← ht, List.getElem?_take] at h1
        split at h1
        · exact h1
        · cases h1
      simpa using this
    have h4 : (flatK encO 2 C.toArray)[j]! = u := by
      rw [get_flatK _ _ _ _ hj, getElem!_pos C.toArray (j / 2) (by simpa using hj2)]
      have : encO C.toArray[j / 2] = snpC C[j / 2] := rfl
      rw [this]
      simp [hu]
    refine ⟨?_, heap_free hh _⟩
    rw [h4, Nat.zero_add]
    exact heap_cell hh h3
theorem below_sorted {W : World} {B g n : Nat} {d : Array Snp} {os : Array Obj} (hg : B ≤ g) (hgl : g < W.heap.size) : RowKit.Below B W (sortWorldK encO 2 W g 0 n d os) := by
  have hsz : (putRowK encO 2 (Sort.ahead W n) g 0 d).heap.size = W.heap.size := by unfold putRowK; simp [Sort.ahead]
  refine ⟨rfl, rfl, rfl, ?_, fun k hk => ?_⟩
  · show W.heap.size ≤ ((putRowK encO 2 (Sort.ahead W n) g 0 d).heap ++ os).size
    rw [Array.size_append, hsz]; omega
  · show ((putRowK encO 2 (Sort.ahead W n) g 0 d).heap ++ os)[k]? = _
    rw [Array.getElem?_append_left (by rw [hsz]; omega)]
    unfold putRowK putRow mapBlock
    show (W.heap.modify g _)[k]? = _
    rw [Array.getElem?_modify, if_neg (by omega)]
theorem row_sorted {W : World} {g n c : Nat} {C : List Snp} {d : Array Snp} {os : Array Obj} (hH : HoldsK encO 2 W g 0 C.toArray) (hg : g < W.heap.size) (hs : d.size = C.length) (hr : SnpRow W (.slice (some ⟨g, 0, none⟩) C.length c) C) :
    SnpRow (sortWorldK encO 2 W g 0 n d os) (.slice (some ⟨g, 0, none⟩) C.length c) d.toList := by
  obtain ⟨a, c', hv, hc, hm, -⟩ := hr
  cases hv
  have hK := holdsK_sortWorldK encO 2 W g 0 n C.toArray d os hg hH (by simp [hs])
  refine ⟨_, _, by simp [hs], by simp [hs]; exact hc, hm, .inr ⟨g, 0, rfl, fun j x hx i u hu => ?_⟩⟩
  have hi2 : i < 2 := by
    have := (List.getElem?_eq_some_iff.1 hu).1
    simpa using this
  rw [Array.getElem?_toList] at hx
  obtain ⟨hj, hx⟩ := Array.getElem?_eq_some_iff.1 hx
  have h1 := (hK.cell (i := j) (c := i) hj hi2).1
  rw [getElem!_pos d j hj, hx, show (encO x)[i]! = u by rw [show encO x = snpC x from rfl]; simp [hu]] at h1
  exact h1
theorem sortsO (B : Nat) : SortsO B := by
  intro g c C W hown hl hnd
  obtain ⟨hH, hgl, hgB⟩ := holds_of_own hown
  have hr : SnpRow W (.slice (some ⟨g, 0, none⟩) C.length c) C := Row.of_owns hown
  have CS := sortO_walk g c C.toArray W hH hgl (by simp; omega)
  rw [show C.toArray.size = C.length by simp] at CS
  refine CS.mono ?_
  rintro e w' ⟨rfl, d', n, os, hp, hs, rfl⟩
  obtain ⟨hsz, -, hpe⟩ := hp
  have hsz2 : d'.size = C.length := by simpa using hsz
  have hpe2 : d'.toList.Perm C := by
    rw [← hsz2, Array.extract_size] at hpe
    rwa [show C.toArray.extract 0 d'.size = C.toArray by rw [hsz2]; simp] at hpe
  exact ⟨rfl, d'.toList, hpe2, up_of_sorted (by rw [hsz2]; exact hs) ((names_perm hpe2).nodup_iff.2 hnd), row_sorted hH hgl hsz2 hr, below_sorted hgB hgl⟩
end Go.Proofs.YtbmdoekfbkpaeaaGreatDoor

namespace Go.Proofs.YtbmdoekfbkpaeaaGreatDoor
open Go.RowKit

theorem keysI_len {pc : List UInt8 → List (List UInt8)} {items : List Itm} : ∀ (l : List Itm), (∀ x ∈ l, (pc x.2.2.2).length ≤ 1024) → (l.flatMap (keysI pc items)).length ≤ l.length * 1026
  | [], _ => by simp
  | x :: l, h => by
    have h1 := keysI_len (items := items) l fun y hy => h y (List.mem_cons_of_mem _ hy)
    have h2 := h x List.mem_cons_self
    rw [List.flatMap_cons, List.length_append, List.length_cons, Nat.add_mul]
    have h3 : (keysI pc items x).length = (pc x.2.2.2).length + 2 := by simp [keysI]
    omega
theorem putN_pos (o : List Snp) {n : Nod} (hn : FitN n) : 0 < (putN o n).length := by
  unfold putN addO
  split
  · rename_i h
    rcases h with h | h
    · rcases o with _ | ⟨x, o⟩
      · simp [findR] at h
      · simp
    · exact absurd (keyN_len hn) h
  · exact List.length_pos_of_mem (mem_insO.2 (.inl rfl))
theorem build12_walk (x k y z ic : Nat) (ia : Option Addr) (items : List Itm) (w : World) (hf : FitC x k z) (hpk : 2 ^ k = y) (hrd : Ready (piecesC x k z) items) (hir : ItRow w (.slice ia items.length ic) items) (hmx : Mx w) (htz : TzT w) (hlen : items.length ≤ 60) :
    Calls Tryz.prog 9 #[PrmV x y z, .slice ia items.length ic] w fun e w' => ∃ v', e = .returned (.tuple #[S (keyN (dirN (piecesC x k z) items 9 [])), v']) ∧ SnpRow w' v' (dirO (piecesC x k z) items 9 [] []) ∧ Below w.heap.size w w' := by
  have hA := (hrd.among 9 [] [] (.inl rfl) rfl ⟨rfl, by simp [namesR]⟩).len
  have hk := keysI_len (items := items) items hrd.few
  have hfw : (dirO (piecesC x k z) items 9 [] []).length ≤ 100000 := by
    refine Nat.le_trans hA ?_
    unfold keysT
    rw [List.length_cons]
    have := Nat.mul_le_mul_right 1026 hlen
    omega
  exact pbuild12_walk x k y z ic ia items w hf hpk hrd hir hmx htz hfw (putN_pos _ (hrd.dir 9 [])) (sortsO _)
end Go.Proofs.YtbmdoekfbkpaeaaGreatDoor

namespace Go.Proofs.YtbmdoekfbkpaeaaGreatDoor
open Go.RowKit

theorem readyNil (pc : List UInt8 → List (List UInt8)) : Ready pc [] := ⟨⟨by simp, by simp [upT], by simp, by simp [sizeT]⟩, by simp, by simp, by simp⟩
theorem dirN_nil (pc : List UInt8 → List (List UInt8)) (n : Nat) (d : List UInt8) : dirN pc [] n d = ⟨3, [], [], []⟩ := by
  cases n <;> rfl
theorem fitE : FitN ⟨3, [], [], []⟩ := .inr (.inr ⟨rfl, rfl, rfl, ⟨by simp, by simp, by simp [risesE]⟩⟩)
theorem writeE : writeN ⟨3, [], [], []⟩ = [3, 0] := by
  unfold writeN
  rw [if_pos (fitN_iff.2 fitE)]
  have : putV 0 = [0] := by unfold putV; simp
  simp [bodyN, this]
theorem dirO_nil (pc : List UInt8 → List (List UInt8)) : dirO pc [] 9 [] [] = [(keyN ⟨3, [], [], []⟩, [3, 0])] := by
  rw [dirO_succ]
  show putN (someO pc [] 8 [] []) _ = _
  rw [dirN_nil]
  show addO [] _ = _
  unfold addO
  rw [if_neg]
  · rw [writeE]; rfl
  · have := keyN_len fitE
    simp [findR, this]

set_option maxHeartbeats 4000000 in
set_option maxRecDepth 100000 in
theorem awake12b_walk (w : World) (hM : Mx w) (hT : TzT w) : Calls Tryz.prog 8 #[] w fun e w' => e = .returned (.bool true) ∧ Below w.heap.size w w' := by
  have C := build12_walk 2 2 4 8 0 none [] w ⟨by omega, by omega, by omega, by omega, by omega, by omega⟩ rfl (readyNil _) (Row.nil _ _) hM hT (by simp)
  rw [dirN_nil, dirO_nil] at C
  generalize keyN ⟨3, [], [], []⟩ = kk at *
  go_enter Tryz.func8, Tryz.ntmps8
  go_wp2_with fail
  refine C.mono ?_
  rintro e w1 ⟨v, rfl, ⟨a, c, rfl, hc, hm, hx⟩, hb1⟩
  have hlen : (([(kk, [3, 0])] : List Snp).length : Int) = 1 := rfl
  rcases hx with hx | ⟨b, o, rfl, hx⟩
  · cases hx
  obtain ⟨hx1, hx2⟩ := snp_cells hx (j := 0) (by simp)
  simp only [Nat.zero_mul, Nat.add_zero, List.getElem_cons_zero] at hx1 hx2
  have hlt : (0 : Int) < (([(kk, [3, 0])] : List Snp).length : Int) := by simp
  clear hx C hc hm
  go_wp2
  go_ret
  exact ⟨rfl, hb1⟩
end Go.Proofs.YtbmdoekfbkpaeaaGreatDoor

namespace Go.Proofs.YtbmdoekfbkpaeaaGreatDoor

/-- In a row that rises: how many stand ahead of a path. -/
def posT (ks : List (List UInt8)) (n : List UInt8) : Nat := (ks.takeWhile (fun k => ltP k n)).length
theorem posT_at {ks : List (List UInt8)} {n : List UInt8} {i : Nat} (hi : i ≤ ks.length) (h1 : ∀ y ∈ ks.take i, ltP y n = true) (h2 : ∀ h : i < ks.length, ltP ks[i] n = false) : posT ks n = i := by
  unfold posT
  have e : ks.takeWhile (fun k => ltP k n) = ks.take i ++ (ks.drop i).takeWhile (fun k => ltP k n) := by
    conv => lhs; rw [← List.take_append_drop i ks]
    rw [List.takeWhile_append_of_pos (by intro y hy; simpa using h1 y hy)]
  rw [e, List.length_append, List.length_take, Nat.min_eq_left hi]
  by_cases h : i < ks.length
  · rw [List.drop_eq_getElem_cons h, List.takeWhile_cons_of_neg (by simpa using h2 h)]; simp
  · rw [List.drop_eq_nil_of_le (by omega)]; simp
theorem posT_le (ks : List (List UInt8)) (n : List UInt8) : posT ks n ≤ ks.length := by
  unfold posT; exact (List.takeWhile_sublist _).length_le
abbrev upP (ks : List (List UInt8)) : Prop := upT ks
theorem upT_before {ks : List (List UInt8)} {n : List UInt8} {h : Nat} (hu : upP ks) (hh : h < ks.length) (hl : ltP ks[h] n = true) : ∀ y ∈ ks.take (h + 1), ltP y n = true := by
  intro y hy
  rw [List.take_succ_eq_append_getElem hh, List.mem_append] at hy
  rcases hy with hy | hy
  · obtain ⟨j, hj, rfl⟩ := List.mem_iff_getElem.1 hy
    rw [List.length_take] at hj
    rw [List.getElem_take]
    exact ltP_trans (List.pairwise_iff_getElem.1 hu j h (by omega) hh (by omega)) hl
  · simp at hy; rw [hy]; exact hl
theorem upT_behind {ks : List (List UInt8)} {n : List UInt8} {h : Nat} (hu : upP ks) (hh : h < ks.length) (hl : ltP ks[h] n = false) : ∀ y ∈ ks.drop h, ltP y n = false := by
  intro y hy
  cases hlt : ltP y n with
  | false => rfl
  | true =>
  exfalso
  obtain ⟨j, hj, rfl⟩ := List.mem_iff_getElem.1 hy
  rw [List.length_drop] at hj
  rw [List.getElem_drop] at hlt
  rcases Nat.eq_zero_or_pos j with rfl | hp
  · have h9 : ltP ks[h] n = true := by simpa using hlt
    rw [hl] at h9; cases h9
  · have h9 := (ltP_trans (List.pairwise_iff_getElem.1 hu h (h + j) hh (by omega) (by omega)) hlt)
    rw [hl] at h9; cases h9
theorem memT_at_pos {ks : List (List UInt8)} {n : List UInt8} (hu : upP ks) : n ∈ ks ↔ ks[posT ks n]? = some n := by
  constructor
  · intro h
    obtain ⟨j, hj, rfl⟩ := List.mem_iff_getElem.1 h
    have : posT ks ks[j] = j := by
      refine posT_at (by omega) ?_ (fun _ => ltP_irrefl _)
      intro y hy
      obtain ⟨i, hi, rfl⟩ := List.mem_iff_getElem.1 hy
      rw [List.length_take] at hi
      rw [List.getElem_take]
      exact List.pairwise_iff_getElem.1 hu i j (by omega) hj (by omega)
    rw [this]; simp
  · intro h; exact List.mem_of_getElem? h
theorem memT_at {ks : List (List UInt8)} {n : List UInt8} (hu : upP ks) {i : Nat} (hp : posT ks n = i) (hi : i < ks.length) : decide (n ∈ ks) = (orderL ks[i] n == 0) := by
  have hm := memT_at_pos (n := n) hu
  rw [hp] at hm
  rw [List.getElem?_eq_getElem hi, Option.some.injEq] at hm
  rcases ltP_three ks[i] n with ⟨h, _, _, h1⟩ | ⟨h, _, _, h1⟩ | ⟨h, _, _, h1⟩
  · rw [h]; simp [hm, h1]
  · rw [h]; simp [hm, h1]
  · rw [h]; simp [hm, h1]
theorem memT_end {ks : List (List UInt8)} {n : List UInt8} (hu : upP ks) (hp : posT ks n = ks.length) : decide (n ∈ ks) = false := by
  have hm := memT_at_pos (n := n) hu
  rw [hp] at hm
  simp at hm
  simpa using hm

theorem withT_at {l : List Itm} {x : Itm} (hu : upT (l.map (·.1))) : withT l x = l.take (posT (l.map (·.1)) x.1) ++ x :: (if x.1 ∈ l.map (·.1) then l.drop (posT (l.map (·.1)) x.1 + 1) else l.drop (posT (l.map (·.1)) x.1)) := by
  have key : ∀ l : List Itm, upT (l.map (·.1)) → l.filter (fun y => ltP y.1 x.1) = l.take (posT (l.map (·.1)) x.1) ∧ l.filter (fun y => ltP x.1 y.1) = (if x.1 ∈ l.map (·.1) then l.drop (posT (l.map (·.1)) x.1 + 1) else l.drop (posT (l.map (·.1)) x.1)) := by
    intro l
    induction l with
    | nil => intro _; simp [posT]
    | cons y ys ih =>
      intro hp
      have hp2 := hp
      unfold upT at hp2
      rw [List.map_cons, List.pairwise_cons] at hp2
      obtain ⟨ih1, ih2⟩ := ih hp2.2
      have hall : ∀ z ∈ ys, ltP y.1 z.1 = true := fun z hz => hp2.1 _ (List.mem_map_of_mem hz)
      rcases ltP_three y.1 x.1 with ⟨_, h1, h2, h3⟩ | ⟨_, h1, h2, h3⟩ | ⟨_, h1, h2, h3⟩
      · have hpos : posT ((y :: ys).map (·.1)) x.1 = posT (ys.map (·.1)) x.1 + 1 := by
          unfold posT; rw [List.map_cons, List.takeWhile_cons_of_pos (p := fun k => ltP k x.1) h1]; rfl
        refine ⟨?_, ?_⟩
        · rw [hpos, List.filter_cons_of_pos (p := fun z : Itm => ltP z.1 x.1) h1, ih1, List.take_succ_cons]
        · rw [hpos, List.filter_cons_of_neg (p := fun z : Itm => ltP x.1 z.1) (show ¬ (ltP x.1 y.1 = true) by rw [h2]; simp), ih2]
          have hm : (x.1 ∈ (y :: ys).map (·.1)) ↔ x.1 ∈ ys.map (·.1) := by
            rw [List.map_cons, List.mem_cons]
            exact ⟨fun h => h.resolve_left (fun e => h3 e.symm), .inr⟩
          by_cases hin : x.1 ∈ ys.map (·.1)
          · rw [if_pos hin, if_pos (hm.2 hin), List.drop_succ_cons]
          · rw [if_neg hin, if_neg (fun h => hin (hm.1 h)), List.drop_succ_cons]
      · have hpos : posT ((y :: ys).map (·.1)) x.1 = 0 := by
          unfold posT; rw [List.map_cons, List.takeWhile_cons_of_neg (by rw [h1]; simp)]; rfl
        have hin : x.1 ∈ (y :: ys).map (·.1) := by rw [List.map_cons, h3]; simp
        refine ⟨?_, ?_⟩
        · rw [hpos, List.take_zero, List.filter_eq_nil_iff]
          intro z hz
          rcases List.mem_cons.1 hz with rfl | hz
          · rw [h1]; simp
          · have := hall z hz
            rw [h3] at this
            rw [ltP_asymm this]; simp
        · rw [hpos, if_pos hin, List.drop_succ_cons, List.drop_zero, List.filter_cons_of_neg (p := fun z : Itm => ltP x.1 z.1) (show ¬ (ltP x.1 y.1 = true) by rw [h2]; simp), List.filter_eq_self]
          intro z hz
          have := hall z hz
          rw [h3] at this
          exact this
      · have hpos : posT ((y :: ys).map (·.1)) x.1 = 0 := by
          unfold posT; rw [List.map_cons, List.takeWhile_cons_of_neg (by rw [h1]; simp)]; rfl
        have hin : ¬ x.1 ∈ (y :: ys).map (·.1) := by
          rw [List.map_cons, List.mem_cons]
          rintro (h | h)
          · exact h3 h.symm
          · obtain ⟨z, hz, e⟩ := List.mem_map.1 h
            have := ltP_trans h2 (hall z hz)
            rw [show z.1 = x.1 from e, ltP_irrefl] at this; cases this
        refine ⟨?_, ?_⟩
        · rw [hpos, List.take_zero, List.filter_eq_nil_iff]
          intro z hz
          rcases List.mem_cons.1 hz with rfl | hz
          · rw [h1]; simp
          · rw [ltP_asymm (ltP_trans h2 (hall z hz))]; simp
        · rw [hpos, if_neg hin, List.drop_zero, List.filter_eq_self]
          intro z hz
          rcases List.mem_cons.1 hz with rfl | hz
          · exact h2
          · exact ltP_trans h2 (hall z hz)
  obtain ⟨h1, h2⟩ := key l hu
  unfold withT
  rw [h1, h2]
/-- Two rows that rise and have the same items are the same. -/
theorem upT_ext : ∀ {l m : List Itm}, upT (l.map (·.1)) → upT (m.map (·.1)) → (∀ x, x ∈ l ↔ x ∈ m) → l = m
  | [], [], _, _, _ => rfl
  | [], y :: ys, _, _, h => by have := (h y).2 (by simp); cases this
  | x :: xs, [], _, _, h => by have := (h x).1 (by simp); cases this
  | x :: xs, y :: ys, h1, h2, h => by
    have g1 := h1; have g2 := h2
    unfold upT at g1 g2
    rw [List.map_cons, List.pairwise_cons] at g1 g2
    have a1 : ∀ z ∈ xs, ltP x.1 z.1 = true := fun z hz => g1.1 _ (List.mem_map_of_mem hz)
    have a2 : ∀ z ∈ ys, ltP y.1 z.1 = true := fun z hz => g2.1 _ (List.mem_map_of_mem hz)
    have e : x = y := by
      rcases List.mem_cons.1 ((h x).1 (by simp)) with e | hx
      · exact e
      · rcases List.mem_cons.1 ((h y).2 (by simp)) with e | hy
        · exact e.symm
        · have := ltP_trans (a2 x hx) (a1 y hy)
          rw [ltP_irrefl] at this; cases this
    subst e
    congr 1
    refine upT_ext g1.2 g2.2 (fun z => ⟨fun hz => ?_, fun hz => ?_⟩)
    · rcases List.mem_cons.1 ((h z).1 (by simp [hz])) with e | hz2
      · have := a1 z hz; rw [e, ltP_irrefl] at this; cases this
      · exact hz2
    · rcases List.mem_cons.1 ((h z).2 (by simp [hz])) with e | hz2
      · have := a2 z hz; rw [e, ltP_irrefl] at this; cases this
      · exact hz2
theorem withT_swap {l : List Itm} {x y : Itm} (hu : upT (l.map (·.1))) (hne : x.1 ≠ y.1) : withT (withT l x) y = withT (withT l y) x := by
  refine upT_ext (withT_up (withT_up hu)) (withT_up (withT_up hu)) (fun z => ?_)
  simp only [withT_mem]
  constructor
  · rintro (h | ⟨h | ⟨h, h1⟩, h2⟩)
    · exact .inr ⟨.inl h, by rw [h]; exact fun e => hne e.symm⟩
    · exact .inl h
    · exact .inr ⟨.inr ⟨h, h2⟩, h1⟩
  · rintro (h | ⟨h | ⟨h, h1⟩, h2⟩)
    · exact .inr ⟨.inl h, by rw [h]; exact hne⟩
    · exact .inl h
    · exact .inr ⟨.inr ⟨h, h2⟩, h1⟩
theorem dropL_find {l : List Itm} {p q : List UInt8} (hu : upT (l.map (·.1))) : findT (dropL l p) q = if q = p ∨ belowT q p = true then none else findT l q := by
  have hu2 := dropL_up (p := p) hu
  split
  · rename_i h
    cases hf : findT (dropL l p) q with
    | none => rfl
    | some z =>
      exfalso
      obtain ⟨hz, e⟩ := findT_mem hf
      obtain ⟨_, h1, h2⟩ := dropL_mem.1 hz
      rcases h with h | h
      · exact h1 (e.trans h)
      · rw [e, h] at h2; cases h2
  · rename_i h
    cases hf : findT l q with
    | some y =>
      obtain ⟨hy, e⟩ := findT_mem hf
      have := findT_of hu2 (dropL_mem.2 ⟨hy, fun e2 => h (.inl (e.symm.trans e2)), by
        cases hb : belowT y.1 p with
        | false => rfl
        | true => rw [e] at hb; exact absurd (.inr hb) h⟩)
      rwa [e] at this
    | none =>
      cases hg : findT (dropL l p) q with
      | none => rfl
      | some z =>
        exfalso
        obtain ⟨hz, e⟩ := findT_mem hg
        exact findT_none hf z (dropL_mem.1 hz).1 e
end Go.Proofs.YtbmdoekfbkpaeaaGreatDoor
