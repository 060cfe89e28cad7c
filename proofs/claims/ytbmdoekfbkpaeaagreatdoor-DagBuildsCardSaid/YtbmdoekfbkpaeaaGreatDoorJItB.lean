/- A tree's items in memory. Trees, in plain words: places in the order of paths; what the laws of chapter 10 say. No program in sight. The reference's parts: what lies between the slashes. The reference's Split and Fit. -/
import Derived.Test.YtbmdoekfbkpaeaaGreatDoorJRowG
import Derived.Test.YtbmdoekfbkpaeaaGreatDoorTreePlain
import Derived.Test.YtbmdoekfbkpaeaaGreatDoorJBase
namespace Go.Proofs.YtbmdoekfbkpaeaaGreatDoor
open Go.RowKit

abbrev itC (x : Itm) : List Value := [S x.1, .bool x.2.1, .bool x.2.2.1, S x.2.2.2]
abbrev ItV (x : Itm) : Value := .agg #[S x.1, .bool x.2.1, .bool x.2.2.1, S x.2.2.2]
abbrev ItRow := Row itC
theorem infoIt : (Tryz.prog.info? 47).map (fun i => (i.zero, i.size, i.bytes)) = some (some (.agg #[.string ⟨#[]⟩, .bool false, .bool false, .string ⟨#[]⟩]), 4, 40) := by kernel_rfl
theorem itC_len (x : Itm) : (itC x).length = 4 := rfl
theorem it_cells {w : World} {b o : Nat} {xs : List Itm} (h : ∀ j x, xs[j]? = some x → ∀ i u, (itC x)[i]? = some u → w.cell? ⟨b, o + j * (itC x).length + i, none⟩ = some u) {j : Nat} (hj : j < xs.length) :
    w.cell? ⟨b, o + j * 4, none⟩ = some (S xs[j].1) ∧ w.cell? ⟨b, o + j * 4 + 1, none⟩ = some (.bool xs[j].2.1) ∧ w.cell? ⟨b, o + j * 4 + 2, none⟩ = some (.bool xs[j].2.2.1) ∧ w.cell? ⟨b, o + j * 4 + 3, none⟩ = some (S xs[j].2.2.2) :=
  ⟨h j xs[j] (by simp [hj]) 0 _ rfl, h j xs[j] (by simp [hj]) 1 _ rfl, h j xs[j] (by simp [hj]) 2 _ rfl, h j xs[j] (by simp [hj]) 3 _ rfl⟩
theorem it4_one (x : Itm) : ∀ u ∈ itC x, u.oneCell' = true := by
  intro u hu; simp at hu; rcases hu with rfl | rfl | rfl | rfl <;> rfl
theorem it_one (l : List Itm) : ∀ u ∈ l.flatMap itC, u.oneCell' = true := flat_oneK (fun x _ => it4_one x)
/-- An item's zero, in a box. -/
abbrev zC : Array Value := #[.string ⟨#[]⟩, .bool false, .bool false, .string ⟨#[]⟩]
end Go.Proofs.YtbmdoekfbkpaeaaGreatDoor

namespace Go.Proofs.YtbmdoekfbkpaeaaGreatDoor

/-- In a row that rises: how many stand ahead of a path. -/
def posT (ks : List (List UInt8)) (n : List UInt8) : Nat := (ks.takeWhile (fun k => ltP k n)).length
theorem posT_at {ks : List (List UInt8)} {n : List UInt8} {i : Nat} (hi : i ≤ ks.length) (h1 : ∀ y ∈ ks.take i, ltP y n = true) (h2 : ∀ h : i < ks.length, ltP ks[i] n = false) : posT ks n = i := by
  unfold posT
  have e : ks.takeWhile (fun k => ltP k n) = ks.take i ++ (ks.drop i).takeWhile (fun k => ltP k n) := by
    conv => lhs; rw [← List.take_append_drop i ks]
    rw [List.takeWhile_append_of_pos (by intro y hy; simpa using h1 y hy)]
  rw [e, List.length_append, List.length_take, Nat.min_eq_left hi]
  by_cases h : i < ks.length
  · rw [List.drop_eq_getElem_cons h, List.takeWhile_cons_of_neg (by simpa using h2 h)]; simp
  · rw [List.drop_eq_nil_of_le (by omega)]; simp
theorem posT_le (ks : List (List UInt8)) (n : List UInt8) : posT ks n ≤ ks.length := by
  unfold posT; exact (List.takeWhile_sublist _).length_le
abbrev upP (ks : List (List UInt8)) : Prop := upT ks
theorem upT_before {ks : List (List UInt8)} {n : List UInt8} {h : Nat} (hu : upP ks) (hh : h < ks.length) (hl : ltP ks[h] n = true) : ∀ y ∈ ks.take (h + 1), ltP y n = true := by
  intro y hy
  rw [List.take_succ_eq_append_getElem hh, List.mem_append] at hy
  rcases hy with hy | hy
  · obtain ⟨j, hj, rfl⟩ := List.mem_iff_getElem.1 hy
    rw [List.length_take] at hj
    rw [List.getElem_take]
    exact ltP_trans (List.pairwise_iff_getElem.1 hu j h (by omega) hh (by omega)) hl
  · simp at hy; rw [hy]; exact hl
theorem upT_behind {ks : List (List UInt8)} {n : List UInt8} {h : Nat} (hu : upP ks) (hh : h < ks.length) (hl : ltP ks[h] n = false) : ∀ y ∈ ks.drop h, ltP y n = false := by
  intro y hy
  cases hlt : ltP y n with
  | false => rfl
  | true =>
  exfalso
  obtain ⟨j, hj, rfl⟩ := List.mem_iff_getElem.1 hy
  rw [List.length_drop] at hj
  rw [List.getElem_drop] at hlt
  rcases Nat.eq_zero_or_pos j with rfl | hp
  · have h9 : ltP ks[h] n = true := by simpa using hlt
    rw [hl] at h9; cases h9
  · have h9 := (ltP_trans (List.pairwise_iff_getElem.1 hu h (h + j) hh (by omega) (by omega)) hlt)
    rw [hl] at h9; cases h9
theorem memT_at_pos {ks : List (List UInt8)} {n : List UInt8} (hu : upP ks) : n ∈ ks ↔ ks[posT ks n]? = some n := by
  constructor
  · intro h
    obtain ⟨j, hj, rfl⟩ := List.mem_iff_getElem.1 h
    have : posT ks ks[j] = j := by
      refine posT_at (by omega) ?_ (fun _ => ltP_irrefl _)
      intro y hy
      obtain ⟨i, hi, rfl⟩ := List.mem_iff_getElem.1 hy
      rw [List.length_take] at hi
      rw [List.getElem_take]
      exact List.pairwise_iff_getElem.1 hu i j (by omega) hj (by omega)
    rw [this]; simp
  · intro h; exact List.mem_of_getElem? h
theorem memT_at {ks : List (List UInt8)} {n : List UInt8} (hu : upP ks) {i : Nat} (hp : posT ks n = i) (hi : i < ks.length) : decide (n ∈ ks) = (orderL ks[i] n == 0) := by
  have hm := memT_at_pos (n := n) hu
  rw [hp] at hm
  rw [List.getElem?_eq_getElem hi, Option.some.injEq] at hm
  rcases ltP_three ks[i] n with ⟨h, _, _, h1⟩ | ⟨h, _, _, h1⟩ | ⟨h, _, _, h1⟩
  · rw [h]; simp [hm, h1]
  · rw [h]; simp [hm, h1]
  · rw [h]; simp [hm, h1]
theorem memT_end {ks : List (List UInt8)} {n : List UInt8} (hu : upP ks) (hp : posT ks n = ks.length) : decide (n ∈ ks) = false := by
  have hm := memT_at_pos (n := n) hu
  rw [hp] at hm
  simp at hm
  simpa using hm

theorem withT_at {l : List Itm} {x : Itm} (hu : upT (l.map (·.1))) : withT l x = l.take (posT (l.map (·.1)) x.1) ++ x :: (if x.1 ∈ l.map (·.1) then l.drop (posT (l.map (·.1)) x.1 + 1) else l.drop (posT (l.map (·.1)) x.1)) := by
  have key : ∀ l : List Itm, upT (l.map (·.1)) → l.filter (fun y => ltP y.1 x.1) = l.take (posT (l.map (·.1)) x.1) ∧ l.filter (fun y => ltP x.1 y.1) = (if x.1 ∈ l.map (·.1) then l.drop (posT (l.map (·.1)) x.1 + 1) else l.drop (posT (l.map (·.1)) x.1)) := by
    intro l
    induction l with
    | nil => intro _; simp [posT]
    | cons y ys ih =>
      intro hp
      have hp2 := hp
      unfold upT at hp2
      rw [List.map_cons, List.pairwise_cons] at hp2
      obtain ⟨ih1, ih2⟩ := ih hp2.2
      have hall : ∀ z ∈ ys, ltP y.1 z.1 = true := fun z hz => hp2.1 _ (List.mem_map_of_mem hz)
      rcases ltP_three y.1 x.1 with ⟨_, h1, h2, h3⟩ | ⟨_, h1, h2, h3⟩ | ⟨_, h1, h2, h3⟩
      · have hpos : posT ((y :: ys).map (·.1)) x.1 = posT (ys.map (·.1)) x.1 + 1 := by
          unfold posT; rw [List.map_cons, List.takeWhile_cons_of_pos (p := fun k => ltP k x.1) h1]; rfl
        refine ⟨?_, ?_⟩
        · rw [hpos, List.filter_cons_of_pos (p := fun z : Itm => ltP z.1 x.1) h1, ih1, List.take_succ_cons]
        · rw [hpos, List.filter_cons_of_neg (p := fun z : Itm => ltP x.1 z.1) (show ¬ (ltP x.1 y.1 = true) by rw [h2]; simp), ih2]
          have hm : (x.1 ∈ (y :: ys).map (·.1)) ↔ x.1 ∈ ys.map (·.1) := by
            rw [List.map_cons, List.mem_cons]
            exact ⟨fun h => h.resolve_left (fun e => h3 e.symm), .inr⟩
          by_cases hin : x.1 ∈ ys.map (·.1)
          · rw [if_pos hin, if_pos (hm.2 hin), List.drop_succ_cons]
          · rw [if_neg hin, if_neg (fun h => hin (hm.1 h)), List.drop_succ_cons]
      · have hpos : posT ((y :: ys).map (·.1)) x.1 = 0 := by
          unfold posT; rw [List.map_cons, List.takeWhile_cons_of_neg (by rw [h1]; simp)]; rfl
        have hin : x.1 ∈ (y :: ys).map (·.1) := by rw [List.map_cons, h3]; simp
        refine ⟨?_, ?_⟩
        · rw [hpos, List.take_zero, List.filter_eq_nil_iff]
          intro z hz
          rcases List.mem_cons.1 hz with rfl | hz
          · rw [h1]; simp
          · have := hall z hz
            rw [h3] at this
            rw [ltP_asymm this]; simp
        · rw [hpos, if_pos hin, List.drop_succ_cons, List.drop_zero, List.filter_cons_of_neg (p := fun z : Itm => ltP x.1 z.1) (show ¬ (ltP x.1 y.1 = true) by rw [h2]; simp), List.filter_eq_self]
          intro z hz
          have := hall z hz
          rw [h3] at this
          exact this
      · have hpos : posT ((y :: ys).map (·.1)) x.1 = 0 := by
          unfold posT; rw [List.map_cons, List.takeWhile_cons_of_neg (by rw [h1]; simp)]; rfl
        have hin : ¬ x.1 ∈ (y :: ys).map (·.1) := by
          rw [List.map_cons, List.mem_cons]
          rintro (h | h)
          · exact h3 h.symm
          · obtain ⟨z, hz, e⟩ := List.mem_map.1 h
            have := ltP_trans h2 (hall z hz)
            rw [show z.1 = x.1 from e, ltP_irrefl] at this; cases this
        refine ⟨?_, ?_⟩
        · rw [hpos, List.take_zero, List.filter_eq_nil_iff]
          intro z hz
          rcases List.mem_cons.1 hz with rfl | hz
          · rw [h1]; simp
          · rw [ltP_asymm (ltP_trans h2 (hall z hz))]; simp
        · rw [hpos, if_neg hin, List.drop_zero, List.filter_eq_self]
          intro z hz
          rcases List.mem_cons.1 hz with rfl | hz
          · exact h2
          · exact ltP_trans h2 (hall z hz)
  obtain ⟨h1, h2⟩ := key l hu
  unfold withT
  rw [h1, h2]
/-- Two rows that rise and have the same items are the same. -/
theorem upT_ext : ∀ {l m : List Itm}, upT (l.map (·.1)) → upT (m.map (·.1)) → (∀ x, x ∈ l ↔ x ∈ m) → l = m
  | [], [], _, _, _ => rfl
  | [], y :: ys, _, _, h => by have := (h y).2 (by simp); cases this
  | x :: xs, [], _, _, h => by have := (h x).1 (by simp); cases this
  | x :: xs, y :: ys, h1, h2, h => by
    have g1 := h1; have g2 := h2
    unfold upT at g1 g2
    rw [List.map_cons, List.pairwise_cons] at g1 g2
    have a1 : ∀ z ∈ xs, ltP x.1 z.1 = true := fun z hz => g1.1 _ (List.mem_map_of_mem hz)
    have a2 : ∀ z ∈ ys, ltP y.1 z.1 = true := fun z hz => g2.1 _ (List.mem_map_of_mem hz)
    have e : x = y := by
      rcases List.mem_cons.1 ((h x).1 (by simp)) with e | hx
      · exact e
      · rcases List.mem_cons.1 ((h y).2 (by simp)) with e | hy
        · exact e.symm
        · have := ltP_trans (a2 x hx) (a1 y hy)
          rw [ltP_irrefl] at this; cases this
    subst e
    congr 1
    refine upT_ext g1.2 g2.2 (fun z => ⟨fun hz => ?_, fun hz => ?_⟩)
    · rcases List.mem_cons.1 ((h z).1 (by simp [hz])) with e | hz2
      · have := a1 z hz; rw [e, ltP_irrefl] at this; cases this
      · exact hz2
    · rcases List.mem_cons.1 ((h z).2 (by simp [hz])) with e | hz2
      · have := a2 z hz; rw [e, ltP_irrefl] at this; cases this
      · exact hz2
theorem withT_swap {l : List Itm} {x y : Itm} (hu : upT (l.map (·.1))) (hne : x.1 ≠ y.1) : withT (withT l x) y = withT (withT l y) x := by
  refine upT_ext (withT_up (withT_up hu)) (withT_up (withT_up hu)) (fun z => ?_)
  simp only [withT_mem]
  constructor
  · rintro (h | ⟨h | ⟨h, h1⟩, h2⟩)
    · exact .inr ⟨.inl h, by rw [h]; exact fun e => hne e.symm⟩
    · exact .inl h
    · exact .inr ⟨.inr ⟨h, h2⟩, h1⟩
  · rintro (h | ⟨h | ⟨h, h1⟩, h2⟩)
    · exact .inr ⟨.inl h, by rw [h]; exact hne⟩
    · exact .inl h
    · exact .inr ⟨.inr ⟨h, h2⟩, h1⟩
theorem dropL_find {l : List Itm} {p q : List UInt8} (hu : upT (l.map (·.1))) : findT (dropL l p) q = if q = p ∨ belowT q p = true then none else findT l q := by
  have hu2 := dropL_up (p := p) hu
  split
  · rename_i h
    cases hf : findT (dropL l p) q with
    | none => rfl
    | some z =>
      exfalso
      obtain ⟨hz, e⟩ := findT_mem hf
      obtain ⟨_, h1, h2⟩ := dropL_mem.1 hz
      rcases h with h | h
      · exact h1 (e.trans h)
      · rw [e, h] at h2; cases h2
  · rename_i h
    cases hf : findT l q with
    | some y =>
      obtain ⟨hy, e⟩ := findT_mem hf
      have := findT_of hu2 (dropL_mem.2 ⟨hy, fun e2 => h (.inl (e.symm.trans e2)), by
        cases hb : belowT y.1 p with
        | false => rfl
        | true => rw [e] at hb; exact absurd (.inr hb) h⟩)
      rwa [e] at this
    | none =>
      cases hg : findT (dropL l p) q with
      | none => rfl
      | some z =>
        exfalso
        obtain ⟨hz, e⟩ := findT_mem hg
        exact findT_none hf z (dropL_mem.1 hz).1 e
end Go.Proofs.YtbmdoekfbkpaeaaGreatDoor

namespace Go.Proofs.YtbmdoekfbkpaeaaGreatDoor
open Go.RowKit

theorem byte_ne {c : UInt8} (h : c ≠ 47) : ((c.toNat : Int) == 47) = false := by
  rw [beq_eq_false_iff_ne]; intro e; exact h (UInt8.toNat_inj.1 (by simp; omega))

set_option maxHeartbeats 1100000 in
set_option maxRecDepth 100000 in
theorem rparts_walk (l : List UInt8) (w : World) (hl : l.length ≤ 1100000) :
    Calls Tryz.prog 87 #[S l] w fun e w' => ∃ v, e = .returned v ∧ StrRow w' v (partsL l) ∧ Below w.heap.size w w' := by
  obtain ⟨i0, hi, hz0, hz1, hz2⟩ := info_parts infoStr
  go_enter Tryz.func87, Tryz.ntmps87
  go_wp2
  go_loopw [3, 4, 5] (fun v fr i wr => ∃ (k f : Nat) (dn : List (List UInt8)), i = .int .i64 k ∧ fr = .int .i64 f ∧ wr.ownsRow w.heap.size 9 1 v dn.length (dn.map S) ∧ Below w.heap.size w wr ∧ dn.length ≤ k ∧
      ((k ≤ l.length ∧ f ≤ k ∧ partsL l = dn ++ partsL (l.drop f) ∧ ∀ c ∈ cutL l f k, c ≠ 47) ∨ (k = l.length + 1 ∧ dn = partsL l)))
    (fun _ _ i _ => l.length + 1 - (intOf i).toNat)
  case atStart => exact ⟨0, 0, [], rfl, rfl, World.ownsRow_nil _ _ _ _, Below.refl _ _, Nat.zero_le _, .inl ⟨Nat.zero_le _, Nat.le_refl _, rfl, by rw [cutL_self]; intro c hc; cases hc⟩⟩
  case round =>
    obtain ⟨k, f, dn, rfl, rfl, hown, hB, hdk, hst⟩ := hrel
    rcases hst with ⟨hk, hf, hp, hn⟩ | ⟨hk, hd⟩
    · have HP := Lib.hid hp
      have HNs := Lib.hid hn
      clear hp hn
      have hsz := hB.size
      by_cases hke : k = l.length
      · have HE := Lib.hid (parts_step_end (Nat.le_of_eq hke.symm) HNs.out HP.out)
        have h1 : ((k : Int) == (l.length : Int)) = true := by rw [hke]; simp
        have h2 : (k : Int) ≤ (l.length : Int) := by omega
        have h3 : l.length ≤ k := by omega
        clear hke
        go_wp2_with (at_builtin; refine wpList_append_own _ rfl _ _ 32 rfl w.heap.size 9 i0 (.string ⟨#[]⟩) 1 16 Tryz.underlying32 hi hz0 hz1 hz2 rfl (by decide) _ _ _ rfl (hown.alloc _) ⟨wr.heap.size, 0, none⟩ 1 1 [.string (({ data := l.toArray } : ByteArray).extract f k)] rfl rfl ?c1 ?c2 ?c3 ?c4 ?c5 ?_)
        case c1 => exact new_cell _ _ _
        case c2 => intro u hu; simp at hu; subst hu; rfl
        case c3 => unfold maxLen; omega
        case c4 => omega
        case c5 => simp; omega
        intro v' w1 hown' hgrow _
        have hB1 : Below w.heap.size w w1 := (hB.alloc hsz _).grown hgrow (by simp; omega) (fun j hj => (hown.lt j hj).1)
        have HO := Lib.hid hown'
        clear hown' hgrow hown
        go_wp2
        go_roundw
        case rel =>
          refine ⟨k + 1, k + 1, dn ++ [cutL l f k], by go_num, by go_num, ?_, hB1, by simp; omega, .inr ⟨by omega, HE.out.symm⟩⟩
          have := HO.out
          rw [S_extract] at this
          simpa using this
        case measure => simp [intOf]; omega
      · have hlt : k < l.length := by omega
        have h1 : ((k : Int) == (l.length : Int)) = false := by rw [beq_eq_false_iff_ne]; omega
        have h2 : (k : Int) ≤ (l.length : Int) := by omega
        clear hke
        by_cases hs : l[k] = 47
        · have HE := Lib.hid (parts_step_slash hf hlt hs HNs.out HP.out)
          have hc : (({ data := l.toArray } : ByteArray)[k]'hlt).toNat = 47 := by show (l[k]).toNat = 47; rw [hs]; rfl
          clear hs
          go_wp2_with (at_builtin; refine wpList_append_own _ rfl _ _ 32 rfl w.heap.size 9 i0 (.string ⟨#[]⟩) 1 16 Tryz.underlying32 hi hz0 hz1 hz2 rfl (by decide) _ _ _ rfl (hown.alloc _) ⟨wr.heap.size, 0, none⟩ 1 1 [.string (({ data := l.toArray } : ByteArray).extract f k)] rfl rfl ?d1 ?d2 ?d3 ?d4 ?d5 ?_)
          case d1 => exact new_cell _ _ _
          case d2 => intro u hu; simp at hu; subst hu; rfl
          case d3 => unfold maxLen; omega
          case d4 => omega
          case d5 => simp; omega
          intro v' w1 hown' hgrow _
          have hB1 : Below w.heap.size w w1 := (hB.alloc hsz _).grown hgrow (by simp; omega) (fun j hj => (hown.lt j hj).1)
          have HO := Lib.hid hown'
          clear hown' hgrow hown
          go_wp2
          go_roundw
          case rel =>
            refine ⟨k + 1, k + 1, dn ++ [cutL l f k], by go_num, by go_num, ?_, hB1, by simp; omega, .inl ⟨by omega, Nat.le_refl _, HE.out, by rw [cutL_self]; intro c hc; cases hc⟩⟩
            have := HO.out
            rw [S_extract] at this
            simpa using this
          case measure => simp [intOf]; omega
        · have HE := Lib.hid (noslash_step hf hlt hs HNs.out)
          have hc : (((({ data := l.toArray } : ByteArray)[k]'hlt).toNat : Int) == 47) = false := byte_ne hs
          clear hs
          go_wp2
          go_roundw
          case rel => exact ⟨k + 1, f, dn, by go_num, rfl, hown, hB, by omega, .inl ⟨by omega, by omega, HP.out, HE.out⟩⟩
          case measure => simp [intOf]; omega
    · have h2 : ¬ (k : Int) ≤ (l.length : Int) := by omega
      subst hd
      clear hk
      go_wp2
      go_ret
      exact ⟨_, rfl, StrRow.of_owns hown, hB⟩
end Go.Proofs.YtbmdoekfbkpaeaaGreatDoor

namespace Go.Proofs.YtbmdoekfbkpaeaaGreatDoor
open Go.RowKit

set_option maxHeartbeats 1100000 in
set_option maxRecDepth 100000 in
theorem rsplit_walk (l : List UInt8) (w : World) (hl : l.length ≤ 1100000) :
    Calls Tryz.prog 50 #[S l] w fun e w' => ∃ v, e = .returned v ∧ StrRow w' v (splitL l) ∧ Below w.heap.size w w' := by
  have C := rparts_walk l w hl
  have hlen := partsL_len l
  have hcnt := partsL_count l
  have HS := Lib.hid (show splitL l = if (partsL l).length ≤ 8 ∧ (partsL l).all nameB = true then partsL l else [] from rfl)
  generalize splitL l = sp at HS ⊢
  generalize partsL l = ps at C hlen hcnt HS
  have HL := Lib.hid hlen
  clear hlen
  by_cases h8 : (8 : Int) < (ps.length : Int)
  · obtain rfl : sp = [] := by rw [HS.out, if_neg]; omega
    go_enter Tryz.func50, Tryz.ntmps50
    go_wp2_with (go_at_call 87; refine C.mono ?_; rintro e w1 ⟨v, rfl, ⟨a, c, rfl, hc, hm, hx⟩, hb⟩)
    go_ret
    exact ⟨_, rfl, StrRow.nil _, hb⟩
  · go_enter Tryz.func50, Tryz.ntmps50
    go_wp2_with (go_at_call 87; refine C.mono ?_; rintro e w1 ⟨v, rfl, ⟨a, c, rfl, hc, hm, hx⟩, hb⟩)
    have HX := Lib.hid hx
    have HB := Lib.hid hb
    clear hx hb
    go_loop [4] (fun i => ∃ k : Nat, k ≤ ps.length ∧ i = .int .i64 k ∧ (ps.take k).all nameB = true) (fun i => ps.length - (intOf i).toNat)
    case atStart => exact ⟨0, Nat.zero_le _, rfl, rfl⟩
    case round =>
      obtain ⟨k, hk, rfl, ha⟩ := hrel
      have HA := Lib.hid ha
      clear ha
      by_cases hlt : k < ps.length
      · have hx := HX.out
        rcases hx with hx | ⟨b, o, rfl, hx⟩
        · exfalso; rw [hx] at hlt; simp at hlt
        have hcell := hx k ps[k] (by simp [hlt])
        have hpl : ps[k].length ≤ 1100000 := Nat.le_trans (HL.out _ (List.getElem_mem hlt)) hl
        have C2 := rname_walk ps[k] w1 hpl
        have hcx : k < ps.length → w1.cell? ⟨b, o + k, none⟩ = some (S ps[k]) := fun _ => hcell
        have HT := Lib.hid (allN_take_succ ps k hlt)
        have HBD := Lib.hid (fun h => allN_bad hlt h)
        clear hx hcell
        generalize ps[k] = p at *
        cases hn : nameB p
        · rw [hn] at C2
          have HF := Lib.hid (HBD.out hn)
          clear hn
          go_wp2_with (go_at_call 88; refine C2.mono ?_; rintro e w2 ⟨rfl, rfl⟩)
          go_ret
          exact ⟨_, rfl, by rw [HS.out, if_neg (by rw [HF.out]; simp)]; exact StrRow.nil _, HB.out⟩
        · rw [hn] at C2
          have HF := Lib.hid hn
          clear hn
          go_wp2_with (go_at_call 88; refine C2.mono ?_; rintro e w2 ⟨rfl, rfl⟩)
          go_round
          case rel => exact ⟨k + 1, by omega, by go_num, by rw [HT.out, HA.out, HF.out]; rfl⟩
          case measure => simp [intOf]; omega
      · go_wp2
        go_ret
        have ha := HA.out
        rw [List.take_of_length_le (by omega)] at ha
        exact ⟨_, rfl, by rw [HS.out, if_pos ⟨by omega, ha⟩]; exact ⟨_, _, rfl, hc, hm, HX.out⟩, HB.out⟩

set_option maxHeartbeats 400000 in
theorem rfit_walk (l : List UInt8) (w : World) (hl : l.length ≤ 1100000) :
    Calls Tryz.prog 65 #[S l] w fun e w' => e = .returned (.bool (fitB l)) ∧ Below w.heap.size w w' := by
  have C := rsplit_walk l w hl
  have HF := Lib.hid (show fitB l = decide (0 < (splitL l).length) from rfl)
  generalize fitB l = fb at HF ⊢
  generalize splitL l = sp at C HF
  go_enter Tryz.func65, Tryz.ntmps65
  go_wp2_with (go_at_call 50; refine C.mono ?_; rintro e w1 ⟨v, rfl, ⟨a, c, rfl, hc, hm, hx⟩, hb⟩)
  go_ret
  exact ⟨ret_bool (by rw [HF.out]), hb⟩
end Go.Proofs.YtbmdoekfbkpaeaaGreatDoor
