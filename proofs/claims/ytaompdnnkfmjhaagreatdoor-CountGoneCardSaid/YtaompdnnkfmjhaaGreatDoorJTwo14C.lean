/- A root of two trees more, and less. Trees, in plain words: places in the order of paths; what the laws of chapter 10 say. No program in sight. -/
import Derived.Test.YtaompdnnkfmjhaaGreatDoorJTwoP
import Derived.Test.YtaompdnnkfmjhaaGreatDoorJCPlus
import Derived.Test.YtaompdnnkfmjhaaGreatDoorJKeyNP
namespace Go.Proofs.YtaompdnnkfmjhaaGreatDoor
open Go.RowKit

theorem cnt_nil (w : World) : CntRow w (.slice none 0 0) [] := ⟨none, 0, rfl, Nat.le_refl _, by unfold maxLen; omega, .inl rfl⟩
theorem plus2_walk {o : List Snp} {a b : List UInt8} (h : TwoT o a b) (cv ov : Value) (c : List Cnt) (rs : List (List UInt8)) (r : List UInt8) (w : World) (hc : CntRow w cv c) (hct : CntT o rs c) (hf : rs.length ≤ 9) (hr : r ∈ namesR o) (ho : SnpRow w ov o) (hT : ErrT w) :
    Calls Tryz.prog 16 #[cv, ov, S r] w fun e w' => ∃ v' c', e = .returned (.tuple #[v', .int .i64 0]) ∧ CntRow w' v' c' ∧ CntT o (rs ++ [r]) c' ∧ Below w.heap.size w w' := by
  refine (cplus_walk cv ov c o r 90000 w hc (hct.okC h).1 ho hT h.up (by have := h.len; omega) h.raw (by have := h.tot; omega) (by omega) (key32O h hr)).mono ?_
  rintro e w' ⟨v', c', code, Q, rfl, hr', huq, hmq, hb, hcase⟩
  rcases hcase with ⟨-, rfl, n, hit⟩ | ⟨hno, -⟩
  · exact ⟨v', c', rfl, hr', hct.plus hr hf hit, hb⟩
  · exact absurd (plus_ok h hr hmq) hno
theorem minus2_walk {o : List Snp} {a b : List UInt8} (h : TwoT o a b) (cv ov : Value) (c : List Cnt) (rs rs' : List (List UInt8)) (r : List UInt8) (w : World) (hc : CntRow w cv c) (hct : CntT o rs c) (hr : r ∈ rs) (he : ∀ k, rs.count k = rs'.count k + if k = r then 1 else 0) (hs : ∀ k ∈ rs', k ∈ namesR o) (hf : rs'.length ≤ 10) (ho : SnpRow w ov o) (hT : ErrT w) :
    Calls Tryz.prog 18 #[cv, ov, S r] w fun e w' => ∃ v' c', e = .returned (.tuple #[v', .int .i64 0]) ∧ CntRow w' v' c' ∧ CntT o rs' c' ∧ Below w.heap.size w w' := by
  refine (cminus_walk cv ov c o r 90000 w hc (hct.okC h).1 ho hT h.up (by have := h.len; omega) h.raw (by have := h.tot; omega) (by omega) (key32O h (hct.top r hr))).mono ?_
  rintro e w' ⟨v', c', code, rfl, hr', hb, hcase⟩
  rcases hcase with ⟨-, rfl, n, hit⟩ | ⟨h0, -⟩
  · exact ⟨v', c', rfl, hr', hct.minus he hs hf hit, hb⟩
  · have := hct.root hr; omega
/-- Nothing is less than nothing. -/
theorem minus0_walk {o : List Snp} {a b : List UInt8} (h : TwoT o a b) (cv ov : Value) (r : List UInt8) (w : World) (hc : CntRow w cv []) (hr : r ∈ namesR o) (ho : SnpRow w ov o) (hT : ErrT w) :
    Calls Tryz.prog 18 #[cv, ov, S r] w fun e w' => ∃ v', e = .returned (.tuple #[v', .int .i64 5]) ∧ CntRow w' v' [] ∧ Below w.heap.size w w' := by
  refine (cminus_walk cv ov [] o r 90000 w hc ((CntT.nil o).okC h).1 ho hT h.up (by have := h.len; omega) h.raw (by have := h.tot; omega) (by omega) (key32O h hr)).mono ?_
  rintro e w' ⟨v', c', code, rfl, hr', hb, hcase⟩
  rcases hcase with ⟨h0, -⟩ | ⟨-, rfl, rfl⟩
  · exact absurd rfl h0
  · exact ⟨v', rfl, hr', hb⟩
end Go.Proofs.YtaompdnnkfmjhaaGreatDoor

namespace Go.Proofs.YtaompdnnkfmjhaaGreatDoor

/-- In a row that rises: how many stand ahead of a path. -/
def posT (ks : List (List UInt8)) (n : List UInt8) : Nat := (ks.takeWhile (fun k => ltP k n)).length
theorem posT_at {ks : List (List UInt8)} {n : List UInt8} {i : Nat} (hi : i ≤ ks.length) (h1 : ∀ y ∈ ks.take i, ltP y n = true) (h2 : ∀ h : i < ks.length, ltP ks[i] n = false) : posT ks n = i := by
  unfold posT
  have e : ks.takeWhile (fun k => ltP k n) = ks.take i ++ (ks.drop i).takeWhile (fun k => ltP k n) := by
    conv => lhs; rw [← List.take_append_drop i ks]
    rw [List.takeWhile_append_of_pos (by intro y hy; simpa using h1 y hy)]
  rw [e, List.length_append, List.length_take, Nat.min_eq_left hi]
  by_cases h : i < ks.length
  · rw [List.drop_eq_getElem_cons h, List.takeWhile_cons_of_neg (by simpa using h2 h)]; simp
  · rw [List.drop_eq_nil_of_le (by omega)]; simp
theorem posT_le (ks : List (List UInt8)) (n : List UInt8) : posT ks n ≤ ks.length := by
  unfold posT; exact (List.takeWhile_sublist _).length_le
abbrev upP (ks : List (List UInt8)) : Prop := upT ks
theorem upT_before {ks : List (List UInt8)} {n : List UInt8} {h : Nat} (hu : upP ks) (hh : h < ks.length) (hl : ltP ks[h] n = true) : ∀ y ∈ ks.take (h + 1), ltP y n = true := by
  intro y hy
  rw [List.take_succ_eq_append_getElem hh, List.mem_append] at hy
  rcases hy with hy | hy
  · obtain ⟨j, hj, rfl⟩ := List.mem_iff_getElem.1 hy
    rw [List.length_take] at hj
    rw [List.getElem_take]
    exact ltP_trans (List.pairwise_iff_getElem.1 hu j h (by omega) hh (by omega)) hl
  · simp at hy; rw [hy]; exact hl
theorem upT_behind {ks : List (List UInt8)} {n : List UInt8} {h : Nat} (hu : upP ks) (hh : h < ks.length) (hl : ltP ks[h] n = false) : ∀ y ∈ ks.drop h, ltP y n = false := by
  intro y hy
  cases hlt : ltP y n with
  | false => rfl
  | true =>
  exfalso
  obtain ⟨j, hj, rfl⟩ := List.mem_iff_getElem.1 hy
  rw [List.length_drop] at hj
  rw [List.getElem_drop] at hlt
  rcases Nat.eq_zero_or_pos j with rfl | hp
  · have h9 : ltP ks[h] n = true := by simpa using hlt
    rw [hl] at h9; cases h9
  · have h9 := (ltP_trans (List.pairwise_iff_getElem.1 hu h (h + j) hh (by omega) (by omega)) hlt)
    rw [hl] at h9; cases h9
theorem memT_at_pos {ks : List (List UInt8)} {n : List UInt8} (hu : upP ks) : n ∈ ks ↔ ks[posT ks n]? = some n := by
  constructor
  · intro h
    obtain ⟨j, hj, rfl⟩ := List.mem_iff_getElem.1 h
    have : posT ks ks[j] = j := by
      refine posT_at (by omega) ?_ (fun _ => ltP_irrefl _)
      intro y hy
      obtain ⟨i, hi, rfl⟩ := List.mem_iff_getElem.1 hy
      rw [List.length_take] at hi
      rw [List.getElem_take]
      exact List.pairwise_iff_getElem.1 hu i j (by omega) hj (by omega)
    rw [this]; simp
  · intro h; exact List.mem_of_getElem? h
theorem memT_at {ks : List (List UInt8)} {n : List UInt8} (hu : upP ks) {i : Nat} (hp : posT ks n = i) (hi : i < ks.length) : decide (n ∈ ks) = (orderL ks[i] n == 0) := by
  have hm := memT_at_pos (n := n) hu
  rw [hp] at hm
  rw [List.getElem?_eq_getElem hi, Option.some.injEq] at hm
  rcases ltP_three ks[i] n with ⟨h, _, _, h1⟩ | ⟨h, _, _, h1⟩ | ⟨h, _, _, h1⟩
  · rw [h]; simp [hm, h1]
  · rw [h]; simp [hm, h1]
  · rw [h]; simp [hm, h1]
theorem memT_end {ks : List (List UInt8)} {n : List UInt8} (hu : upP ks) (hp : posT ks n = ks.length) : decide (n ∈ ks) = false := by
  have hm := memT_at_pos (n := n) hu
  rw [hp] at hm
  simp at hm
  simpa using hm

theorem withT_at {l : List Itm} {x : Itm} (hu : upT (l.map (·.1))) : withT l x = l.take (posT (l.map (·.1)) x.1) ++ x :: (if x.1 ∈ l.map (·.1) then l.drop (posT (l.map (·.1)) x.1 + 1) else l.drop (posT (l.map (·.1)) x.1)) := by
  have key : ∀ l : List Itm, upT (l.map (·.1)) → l.filter (fun y => ltP y.1 x.1) = l.take (posT (l.map (·.1)) x.1) ∧ l.filter (fun y => ltP x.1 y.1) = (if x.1 ∈ l.map (·.1) then l.drop (posT (l.map (·.1)) x.1 + 1) else l.drop (posT (l.map (·.1)) x.1)) := by
    intro l
    induction l with
    | nil => intro _; simp [posT]
    | cons y ys ih =>
      intro hp
      have hp2 := hp
      unfold upT at hp2
      rw [List.map_cons, List.pairwise_cons] at hp2
      obtain ⟨ih1, ih2⟩ := ih hp2.2
      have hall : ∀ z ∈ ys, ltP y.1 z.1 = true := fun z hz => hp2.1 _ (List.mem_map_of_mem hz)
      rcases ltP_three y.1 x.1 with ⟨_, h1, h2, h3⟩ | ⟨_, h1, h2, h3⟩ | ⟨_, h1, h2, h3⟩
      · have hpos : posT ((y :: ys).map (·.1)) x.1 = posT (ys.map (·.1)) x.1 + 1 := by
          unfold posT; rw [List.map_cons, List.takeWhile_cons_of_pos (p := fun k => ltP k x.1) h1]; rfl
        refine ⟨?_, ?_⟩
        · rw [hpos, List.filter_cons_of_pos (p := fun z : Itm => ltP z.1 x.1) h1, ih1, List.take_succ_cons]
        · rw [hpos, List.filter_cons_of_neg (p := fun z : Itm => ltP x.1 z.1) (show ¬ (ltP x.1 y.1 = true) by rw [h2]; simp), ih2]
          have hm : (x.1 ∈ (y :: ys).map (·.1)) ↔ x.1 ∈ ys.map (·.1) := by
            rw [List.map_cons, List.mem_cons]
            exact ⟨fun h => h.resolve_left (fun e => h3 e.symm), .inr⟩
          by_cases hin : x.1 ∈ ys.map (·.1)
          · rw [if_pos hin, if_pos (hm.2 hin), List.drop_succ_cons]
          · rw [if_neg hin, if_neg (fun h => hin (hm.1 h)), List.drop_succ_cons]
      · have hpos : posT ((y :: ys).map (·.1)) x.1 = 0 := by
          unfold posT; rw [List.map_cons, List.takeWhile_cons_of_neg (by rw [h1]; simp)]; rfl
        have hin : x.1 ∈ (y :: ys).map (·.1) := by rw [List.map_cons, h3]; simp
        refine ⟨?_, ?_⟩
        · rw [hpos, List.take_zero, List.filter_eq_nil_iff]
          intro z hz
          rcases List.mem_cons.1 hz with rfl | hz
          · rw [h1]; simp
          · have := hall z hz
            rw [h3] at this
            rw [ltP_asymm this]; simp
        · rw [hpos, if_pos hin, List.drop_succ_cons, List.drop_zero, List.filter_cons_of_neg (p := fun z : Itm => ltP x.1 z.1) (show ¬ (ltP x.1 y.1 = true) by rw [h2]; simp), List.filter_eq_self]
          intro z hz
          have := hall z hz
          rw [h3] at this
          exact this
      · have hpos : posT ((y :: ys).map (·.1)) x.1 = 0 := by
          unfold posT; rw [List.map_cons, List.takeWhile_cons_of_neg (by rw [h1]; simp)]; rfl
        have hin : ¬ x.1 ∈ (y :: ys).map (·.1) := by
          rw [List.map_cons, List.mem_cons]
          rintro (h | h)
          · exact h3 h.symm
          · obtain ⟨z, hz, e⟩ := List.mem_map.1 h
            have := ltP_trans h2 (hall z hz)
            rw [show z.1 = x.1 from e, ltP_irrefl] at this; cases this
        refine ⟨?_, ?_⟩
        · rw [hpos, List.take_zero, List.filter_eq_nil_iff]
          intro z hz
          rcases List.mem_cons.1 hz with rfl | hz
          · rw [h1]; simp
          · rw [ltP_asymm (ltP_trans h2 (hall z hz))]; simp
        · rw [hpos, if_neg hin, List.drop_zero, List.filter_eq_self]
          intro z hz
          rcases List.mem_cons.1 hz with rfl | hz
          · exact h2
          · exact ltP_trans h2 (hall z hz)
  obtain ⟨h1, h2⟩ := key l hu
  unfold withT
  rw [h1, h2]
/-- Two rows that rise and have the same items are the same. -/
theorem upT_ext : ∀ {l m : List Itm}, upT (l.map (·.1)) → upT (m.map (·.1)) → (∀ x, x ∈ l ↔ x ∈ m) → l = m
  | [], [], _, _, _ => rfl
  | [], y :: ys, _, _, h => by have := (h y).2 (by simp); cases this
  | x :: xs, [], _, _, h => by have := (h x).1 (by simp); cases this
  | x :: xs, y :: ys, h1, h2, h => by
    have g1 := h1; have g2 := h2
    unfold upT at g1 g2
    rw [List.map_cons, List.pairwise_cons] at g1 g2
    have a1 : ∀ z ∈ xs, ltP x.1 z.1 = true := fun z hz => g1.1 _ (List.mem_map_of_mem hz)
    have a2 : ∀ z ∈ ys, ltP y.1 z.1 = true := fun z hz => g2.1 _ (List.mem_map_of_mem hz)
    have e : x = y := by
      rcases List.mem_cons.1 ((h x).1 (by simp)) with e | hx
      · exact e
      · rcases List.mem_cons.1 ((h y).2 (by simp)) with e | hy
        · exact e.symm
        · have := ltP_trans (a2 x hx) (a1 y hy)
          rw [ltP_irrefl] at this; cases this
    subst e
    congr 1
    refine upT_ext g1.2 g2.2 (fun z => ⟨fun hz => ?_, fun hz => ?_⟩)
    · rcases List.mem_cons.1 ((h z).1 (by simp [hz])) with e | hz2
      · have := a1 z hz; rw [e, ltP_irrefl] at this; cases this
      · exact hz2
    · rcases List.mem_cons.1 ((h z).2 (by simp [hz])) with e | hz2
      · have := a2 z hz; rw [e, ltP_irrefl] at this; cases this
      · exact hz2
theorem withT_swap {l : List Itm} {x y : Itm} (hu : upT (l.map (·.1))) (hne : x.1 ≠ y.1) : withT (withT l x) y = withT (withT l y) x := by
  refine upT_ext (withT_up (withT_up hu)) (withT_up (withT_up hu)) (fun z => ?_)
  simp only [withT_mem]
  constructor
  · rintro (h | ⟨h | ⟨h, h1⟩, h2⟩)
    · exact .inr ⟨.inl h, by rw [h]; exact fun e => hne e.symm⟩
    · exact .inl h
    · exact .inr ⟨.inr ⟨h, h2⟩, h1⟩
  · rintro (h | ⟨h | ⟨h, h1⟩, h2⟩)
    · exact .inr ⟨.inl h, by rw [h]; exact hne⟩
    · exact .inl h
    · exact .inr ⟨.inr ⟨h, h2⟩, h1⟩
theorem dropL_find {l : List Itm} {p q : List UInt8} (hu : upT (l.map (·.1))) : findT (dropL l p) q = if q = p ∨ belowT q p = true then none else findT l q := by
  have hu2 := dropL_up (p := p) hu
  split
  · rename_i h
    cases hf : findT (dropL l p) q with
    | none => rfl
    | some z =>
      exfalso
      obtain ⟨hz, e⟩ := findT_mem hf
      obtain ⟨_, h1, h2⟩ := dropL_mem.1 hz
      rcases h with h | h
      · exact h1 (e.trans h)
      · rw [e, h] at h2; cases h2
  · rename_i h
    cases hf : findT l q with
    | some y =>
      obtain ⟨hy, e⟩ := findT_mem hf
      have := findT_of hu2 (dropL_mem.2 ⟨hy, fun e2 => h (.inl (e.symm.trans e2)), by
        cases hb : belowT y.1 p with
        | false => rfl
        | true => rw [e] at hb; exact absurd (.inr hb) h⟩)
      rwa [e] at this
    | none =>
      cases hg : findT (dropL l p) q with
      | none => rfl
      | some z =>
        exfalso
        obtain ⟨hz, e⟩ := findT_mem hg
        exact findT_none hf z (dropL_mem.1 hz).1 e
end Go.Proofs.YtaompdnnkfmjhaaGreatDoor
