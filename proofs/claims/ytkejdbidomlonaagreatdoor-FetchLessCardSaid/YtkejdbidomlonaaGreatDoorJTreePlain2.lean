/- Trees, in plain words: places in the order of paths; what the laws of chapter 10 say. No program in sight. The reference's Join and Dir. The reference Find of trees. The reference's Order. The reference under of trees. -/
import Derived.Test.YtkejdbidomlonaaGreatDoorJTreePlain
import Derived.Test.YtkejdbidomlonaaGreatDoorJTree13
import Derived.Test.YtkejdbidomlonaaGreatDoorJItB
import Derived.Test.YtkejdbidomlonaaGreatDoorJPlain
import Derived.Sort.Walk0
namespace Go.Proofs.YtkejdbidomlonaaGreatDoor

/-- In a row that rises: how many stand ahead of a path. -/
def posT (ks : List (List UInt8)) (n : List UInt8) : Nat := (ks.takeWhile (fun k => ltP k n)).length
theorem posT_at {ks : List (List UInt8)} {n : List UInt8} {i : Nat} (hi : i ≤ ks.length) (h1 : ∀ y ∈ ks.take i, ltP y n = true) (h2 : ∀ h : i < ks.length, ltP ks[i] n = false) : posT ks n = i := by
  unfold posT
  have e : ks.takeWhile (fun k => ltP k n) = ks.take i ++ (ks.drop i).takeWhile (fun k => ltP k n) := by
    conv => lhs; rw [← List.take_append_drop i ks]
    rw [List.takeWhile_append_of_pos (by intro y hy; simpa using h1 y hy)]
  rw [e, List.length_append, List.length_take, Nat.min_eq_left hi]
  by_cases h : i < ks.length
  · rw [List.drop_eq_getElem_cons h, List.takeWhile_cons_of_neg (by simpa using h2 h)]; simp
  · rw [List.drop_eq_nil_of_le (by omega)]; simp
theorem posT_le (ks : List (List UInt8)) (n : List UInt8) : posT ks n ≤ ks.length := by
  unfold posT; exact (List.takeWhile_sublist _).length_le
abbrev upP (ks : List (List UInt8)) : Prop := upT ks
theorem upT_before {ks : List (List UInt8)} {n : List UInt8} {h : Nat} (hu : upP ks) (hh : h < ks.length) (hl : ltP ks[h] n = true) : ∀ y ∈ ks.take (h + 1), ltP y n = true := by
  intro y hy
  rw [List.take_succ_eq_append_getElem hh, List.mem_append] at hy
  rcases hy with hy | hy
  · obtain ⟨j, hj, rfl⟩ := List.mem_iff_getElem.1 hy
    rw [List.length_take] at hj
    rw [List.getElem_take]
    exact ltP_trans (List.pairwise_iff_getElem.1 hu j h (by omega) hh (by omega)) hl
  · simp at hy; rw [hy]; exact hl
theorem upT_behind {ks : List (List UInt8)} {n : List UInt8} {h : Nat} (hu : upP ks) (hh : h < ks.length) (hl : ltP ks[h] n = false) : ∀ y ∈ ks.drop h, ltP y n = false := by
  intro y hy
  cases hlt : ltP y n with
  | false => rfl
  | true =>
  exfalso
  obtain ⟨j, hj, rfl⟩ := List.mem_iff_getElem.1 hy
  rw [List.length_drop] at hj
  rw [List.getElem_drop] at hlt
  rcases Nat.eq_zero_or_pos j with rfl | hp
  · have h9 : ltP ks[h] n = true := by simpa using hlt
    rw [hl] at h9; cases h9
  · have h9 := (ltP_trans (List.pairwise_iff_getElem.1 hu h (h + j) hh (by omega) (by omega)) hlt)
    rw [hl] at h9; cases h9
theorem memT_at_pos {ks : List (List UInt8)} {n : List UInt8} (hu : upP ks) : n ∈ ks ↔ ks[posT ks n]? = some n := by
  constructor
  · intro h
    obtain ⟨j, hj, rfl⟩ := List.mem_iff_getElem.1 h
    have : posT ks ks[j] = j := by
      refine posT_at (by omega) ?_ (fun _ => ltP_irrefl _)
      intro y hy
      obtain ⟨i, hi, rfl⟩ := List.mem_iff_getElem.1 hy
      rw [List.length_take] at hi
      rw [List.getElem_take]
      exact List.pairwise_iff_getElem.1 hu i j (by omega) hj (by omega)
    rw [this]; simp
  · intro h; exact List.mem_of_getElem? h
theorem memT_at {ks : List (List UInt8)} {n : List UInt8} (hu : upP ks) {i : Nat} (hp : posT ks n = i) (hi : i < ks.length) : decide (n ∈ ks) = (orderL ks[i] n == 0) := by
  have hm := memT_at_pos (n := n) hu
  rw [hp] at hm
  rw [List.getElem?_eq_getElem hi, Option.some.injEq] at hm
  rcases ltP_three ks[i] n with ⟨h, _, _, h1⟩ | ⟨h, _, _, h1⟩ | ⟨h, _, _, h1⟩
  · rw [h]; simp [hm, h1]
  · rw [h]; simp [hm, h1]
  · rw [h]; simp [hm, h1]
theorem memT_end {ks : List (List UInt8)} {n : List UInt8} (hu : upP ks) (hp : posT ks n = ks.length) : decide (n ∈ ks) = false := by
  have hm := memT_at_pos (n := n) hu
  rw [hp] at hm
  simp at hm
  simpa using hm

theorem withT_at {l : List Itm} {x : Itm} (hu : upT (l.map (·.1))) : withT l x = l.take (posT (l.map (·.1)) x.1) ++ x :: (if x.1 ∈ l.map (·.1) then l.drop (posT (l.map (·.1)) x.1 + 1) else l.drop (posT (l.map (·.1)) x.1)) := by
  have key : ∀ l : List Itm, upT (l.map (·.1)) → l.filter (fun y => ltP y.1 x.1) = l.take (posT (l.map (·.1)) x.1) ∧ l.filter (fun y => ltP x.1 y.1) = (if x.1 ∈ l.map (·.1) then l.drop (posT (l.map (·.1)) x.1 + 1) else l.drop (posT (l.map (·.1)) x.1)) := by
    intro l
    induction l with
    | nil => intro _; simp [posT]
    | cons y ys ih =>
      intro hp
      have hp2 := hp
      unfold upT at hp2
      rw [List.map_cons, List.pairwise_cons] at hp2
      obtain ⟨ih1, ih2⟩ := ih hp2.2
      have hall : ∀ z ∈ ys, ltP y.1 z.1 = true := fun z hz => hp2.1 _ (List.mem_map_of_mem hz)
      rcases ltP_three y.1 x.1 with ⟨_, h1, h2, h3⟩ | ⟨_, h1, h2, h3⟩ | ⟨_, h1, h2, h3⟩
      · have hpos : posT ((y :: ys).map (·.1)) x.1 = posT (ys.map (·.1)) x.1 + 1 := by
          unfold posT; rw [List.map_cons, List.takeWhile_cons_of_pos (p := fun k => ltP k x.1) h1]; rfl
        refine ⟨?_, ?_⟩
        · rw [hpos, List.filter_cons_of_pos (p := fun z : Itm => ltP z.1 x.1) h1, ih1, List.take_succ_cons]
        · rw [hpos, List.filter_cons_of_neg (p := fun z : Itm => ltP x.1 z.1) (show ¬ (ltP x.1 y.1 = true) by rw [h2]; simp), ih2]
          have hm : (x.1 ∈ (y :: ys).map (·.1)) ↔ x.1 ∈ ys.map (·.1) := by
            rw [List.map_cons, List.mem_cons]
            exact ⟨fun h => h.resolve_left (fun e => h3 e.symm), .inr⟩
          by_cases hin : x.1 ∈ ys.map (·.1)
          · rw [if_pos hin, if_pos (hm.2 hin), List.drop_succ_cons]
          · rw [if_neg hin, if_neg (fun h => hin (hm.1 h)), List.drop_succ_cons]
      · have hpos : posT ((y :: ys).map (·.1)) x.1 = 0 := by
          unfold posT; rw [List.map_cons, List.takeWhile_cons_of_neg (by rw [h1]; simp)]; rfl
        have hin : x.1 ∈ (y :: ys).map (·.1) := by rw [List.map_cons, h3]; simp
        refine ⟨?_, ?_⟩
        · rw [hpos, List.take_zero, List.filter_eq_nil_iff]
          intro z hz
          rcases List.mem_cons.1 hz with rfl | hz
          · rw [h1]; simp
          · have := hall z hz
            rw [h3] at this
            rw [ltP_asymm this]; simp
        · rw [hpos, if_pos hin, List.drop_succ_cons, List.drop_zero, List.filter_cons_of_neg (p := fun z : Itm => ltP x.1 z.1) (show ¬ (ltP x.1 y.1 = true) by rw [h2]; simp), List.filter_eq_self]
          intro z hz
          have := hall z hz
          rw [h3] at this
          exact this
      · have hpos : posT ((y :: ys).map (·.1)) x.1 = 0 := by
          unfold posT; rw [List.map_cons, List.takeWhile_cons_of_neg (by rw [h1]; simp)]; rfl
        have hin : ¬ x.1 ∈ (y :: ys).map (·.1) := by
          rw [List.map_cons, List.mem_cons]
          rintro (h | h)
          · exact h3 h.symm
          · obtain ⟨z, hz, e⟩ := List.mem_map.1 h
            have := ltP_trans h2 (hall z hz)
            rw [show z.1 = x.1 from e, ltP_irrefl] at this; cases this
        refine ⟨?_, ?_⟩
        · rw [hpos, List.take_zero, List.filter_eq_nil_iff]
          intro z hz
          rcases List.mem_cons.1 hz with rfl | hz
          · rw [h1]; simp
          · rw [ltP_asymm (ltP_trans h2 (hall z hz))]; simp
        · rw [hpos, if_neg hin, List.drop_zero, List.filter_eq_self]
          intro z hz
          rcases List.mem_cons.1 hz with rfl | hz
          · exact h2
          · exact ltP_trans h2 (hall z hz)
  obtain ⟨h1, h2⟩ := key l hu
  unfold withT
  rw [h1, h2]
/-- Two rows that rise and have the same items are the same. -/
theorem upT_ext : ∀ {l m : List Itm}, upT (l.map (·.1)) → upT (m.map (·.1)) → (∀ x, x ∈ l ↔ x ∈ m) → l = m
  | [], [], _, _, _ => rfl
  | [], y :: ys, _, _, h => by have := (h y).2 (by simp); cases this
  | x :: xs, [], _, _, h => by have := (h x).1 (by simp); cases this
  | x :: xs, y :: ys, h1, h2, h => by
    have g1 := h1; have g2 := h2
    unfold upT at g1 g2
    rw [List.map_cons, List.pairwise_cons] at g1 g2
    have a1 : ∀ z ∈ xs, ltP x.1 z.1 = true := fun z hz => g1.1 _ (List.mem_map_of_mem hz)
    have a2 : ∀ z ∈ ys, ltP y.1 z.1 = true := fun z hz => g2.1 _ (List.mem_map_of_mem hz)
    have e : x = y := by
      rcases List.mem_cons.1 ((h x).1 (by simp)) with e | hx
      · exact e
      · rcases List.mem_cons.1 ((h y).2 (by simp)) with e | hy
        · exact e.symm
        · have := ltP_trans (a2 x hx) (a1 y hy)
          rw [ltP_irrefl] at this; cases this
    subst e
    congr 1
    refine upT_ext g1.2 g2.2 (fun z => ⟨fun hz => ?_, fun hz => ?_⟩)
    · rcases List.mem_cons.1 ((h z).1 (by simp [hz])) with e | hz2
      · have := a1 z hz; rw [e, ltP_irrefl] at this; cases this
      · exact hz2
    · rcases List.mem_cons.1 ((h z).2 (by simp [hz])) with e | hz2
      · have := a2 z hz; rw [e, ltP_irrefl] at this; cases this
      · exact hz2
theorem withT_swap {l : List Itm} {x y : Itm} (hu : upT (l.map (·.1))) (hne : x.1 ≠ y.1) : withT (withT l x) y = withT (withT l y) x := by
  refine upT_ext (withT_up (withT_up hu)) (withT_up (withT_up hu)) (fun z => ?_)
  simp only [withT_mem]
  constructor
  · rintro (h | ⟨h | ⟨h, h1⟩, h2⟩)
    · exact .inr ⟨.inl h, by rw [h]; exact fun e => hne e.symm⟩
    · exact .inl h
    · exact .inr ⟨.inr ⟨h, h2⟩, h1⟩
  · rintro (h | ⟨h | ⟨h, h1⟩, h2⟩)
    · exact .inr ⟨.inl h, by rw [h]; exact hne⟩
    · exact .inl h
    · exact .inr ⟨.inr ⟨h, h2⟩, h1⟩
theorem dropL_find {l : List Itm} {p q : List UInt8} (hu : upT (l.map (·.1))) : findT (dropL l p) q = if q = p ∨ belowT q p = true then none else findT l q := by
  have hu2 := dropL_up (p := p) hu
  split
  · rename_i h
    cases hf : findT (dropL l p) q with
    | none => rfl
    | some z =>
      exfalso
      obtain ⟨hz, e⟩ := findT_mem hf
      obtain ⟨_, h1, h2⟩ := dropL_mem.1 hz
      rcases h with h | h
      · exact h1 (e.trans h)
      · rw [e, h] at h2; cases h2
  · rename_i h
    cases hf : findT l q with
    | some y =>
      obtain ⟨hy, e⟩ := findT_mem hf
      have := findT_of hu2 (dropL_mem.2 ⟨hy, fun e2 => h (.inl (e.symm.trans e2)), by
        cases hb : belowT y.1 p with
        | false => rfl
        | true => rw [e] at hb; exact absurd (.inr hb) h⟩)
      rwa [e] at this
    | none =>
      cases hg : findT (dropL l p) q with
      | none => rfl
      | some z =>
        exfalso
        obtain ⟨hz, e⟩ := findT_mem hg
        exact findT_none hf z (dropL_mem.1 hz).1 e
end Go.Proofs.YtkejdbidomlonaaGreatDoor

namespace Go.Proofs.YtkejdbidomlonaaGreatDoor
open Go.RowKit

theorem S_append (a b : List UInt8) : Value.string (({ data := a.toArray } : ByteArray) ++ ({ data := b.toArray } : ByteArray)) = S (a ++ b) := by
  congr 1

set_option maxHeartbeats 1100000 in
set_option maxRecDepth 100000 in
theorem rjoin_walk (v : Value) (ns : List (List UInt8)) (w : World) (hr : StrRow w v ns) (hlen : ∀ p ∈ ns, p.length ≤ 1100000) (hcnt : ns.length ≤ 1100000) :
    Calls Tryz.prog 67 #[v] w fun e w' => e = .returned (S (joinL ns)) ∧ w = w' := by
  obtain ⟨a, c, rfl, hc, hm, hx⟩ := hr
  have HX := Lib.hid hx
  have HL := Lib.hid hlen
  have HS := Lib.hid (show joinL ns = if ns.length ≤ 8 ∧ ns.all nameB = true then joinS ns else [] from rfl)
  generalize joinL ns = jl at HS ⊢
  clear hx hlen
  by_cases h8 : (8 : Int) < (ns.length : Int)
  · obtain rfl : jl = [] := by rw [HS.out, if_neg]; omega
    go_enter Tryz.func67, Tryz.ntmps67
    go_wp2
    go_ret
    exact ⟨rfl, rfl⟩
  · go_enter Tryz.func67, Tryz.ntmps67
    go_wp2
    go_loop [3, 4] (fun s i => ∃ k : Nat, k ≤ ns.length ∧ i = .int .i64 k ∧ (ns.take k).all nameB = true ∧ s = S (joinS (ns.take k))) (fun _ i => ns.length - (intOf i).toNat)
    case atStart => exact ⟨0, Nat.zero_le _, rfl, rfl, rfl⟩
    case round =>
      obtain ⟨k, hk, rfl, ha, rfl⟩ := hrel
      have HA := Lib.hid ha
      have hjl := joinS_len (ns.take k) ha
      have htl : (ns.take k).length = k := by simp; omega
      rw [htl] at hjl
      clear ha htl
      by_cases hlt : k < ns.length
      · have hx := HX.out
        rcases hx with hx | ⟨b, o, rfl, hx⟩
        · exfalso; rw [hx] at hlt; simp at hlt
        have hcx := hx k ns[k] (by simp [hlt])
        have hpl : ns[k].length ≤ 1100000 := HL.out _ (List.getElem_mem hlt)
        have C2 := rname_walk ns[k] w hpl
        have HT := Lib.hid (allN_take_succ ns k hlt)
        have HJ := Lib.hid (joinS_take hlt)
        have HBD := Lib.hid (fun h => allN_bad hlt h)
        clear hx
        generalize ns[k] = p at *
        generalize joinS (ns.take k) = jk at *
        cases hn : nameB p
        · rw [hn] at C2
          have HF := Lib.hid (HBD.out hn)
          clear hn
          go_wp2_with (go_at_call 68; refine C2.mono ?_; rintro e w2 ⟨rfl, rfl⟩)
          go_ret
          exact ⟨ret_str (by rw [HS.out, if_neg (by rw [HF.out]; simp)]), rfl⟩
        · rw [hn] at C2
          have hpl' := nameB_len hn
          have HF := Lib.hid hn
          clear hn
          by_cases hz : k = 0
          · have hz' : ¬ (0 : Int) < (k : Int) := by omega
            have HJ0 := Lib.hid (show jk = [] from List.length_eq_zero_iff.1 (by omega))
            have HZ := Lib.hid hz
            clear hz
            go_wp2_with (go_at_call 68; refine C2.mono ?_; rintro e w2 ⟨rfl, rfl⟩)
            go_round
            case rel => exact ⟨k + 1, by omega, by go_num, by rw [HT.out, HA.out, HF.out]; rfl, by rw [HJ.out, if_pos HZ.out, S_append, HJ0.out]; rfl⟩
            case measure => simp [intOf]; omega
          · have hz' : (0 : Int) < (k : Int) := by omega
            go_wp2_with (go_at_call 68; refine C2.mono ?_; rintro e w2 ⟨rfl, rfl⟩)
            go_round
            case rel => exact ⟨k + 1, by omega, by go_num, by rw [HT.out, HA.out, HF.out]; rfl, by rw [S_append, HJ.out, if_neg hz]; simp⟩
            case measure => simp [intOf]; omega
      · go_wp2
        go_ret
        have ha := HA.out
        rw [List.take_of_length_le (by omega)] at ha
        exact ⟨ret_str (by rw [HS.out, if_pos ⟨by omega, ha⟩, List.take_of_length_le (by omega)]), rfl⟩

set_option maxHeartbeats 400000 in
theorem rdir_walk (l : List UInt8) (w : World) (hl : l.length ≤ 1100000) :
    Calls Tryz.prog 40 #[S l] w fun e w' => e = .returned (S (dirL l)) ∧ Below w.heap.size w w' := by
  have C := rsplit_walk l w hl
  have HF := Lib.hid (show dirL l = if (splitL l).length < 2 then [] else joinL ((splitL l).take ((splitL l).length - 1)) from rfl)
  have hlen := splitL_len l
  have hle := splitL_le l
  generalize dirL l = fb at HF ⊢
  generalize splitL l = sp at C HF hlen hle
  by_cases h2 : (sp.length : Int) < 2
  · go_enter Tryz.func40, Tryz.ntmps40
    go_wp2_with (go_at_call 41; refine C.mono ?_; rintro e w1 ⟨v, rfl, ⟨a, c, rfl, hc, hm, hx⟩, hb⟩)
    go_ret
    exact ⟨ret_str (by rw [HF.out, if_pos (by omega)]), hb⟩
  · go_enter Tryz.func40, Tryz.ntmps40
    go_wp2_with (go_at_call 41; refine C.mono ?_; rintro e w1 ⟨v, rfl, ⟨a, c, rfl, hc, hm, hx⟩, hb⟩)
    have hr : StrRow w1 (.slice a (sp.length - 1) c) (sp.take (sp.length - 1)) := StrRow.take ⟨_, _, rfl, hc, hm, hx⟩ (by omega)
    refine (rjoin_walk _ _ w1 hr (fun p hp => by have := hlen p (List.mem_of_mem_take hp); omega) (by simp; omega)).mono ?_
    rintro e w2 ⟨rfl, rfl⟩
    go_wp2
    go_ret
    exact ⟨ret_str (by rw [HF.out, if_neg (by omega)]), hb⟩
end Go.Proofs.YtkejdbidomlonaaGreatDoor

namespace Go.Proofs.YtkejdbidomlonaaGreatDoor
open Go.RowKit


theorem sizeT_step {l : List Itm} {k : Nat} (h : k < l.length) : sizeT (l.take (k + 1)) = sizeT (l.take k) + l[k].2.2.2.length := by
  rw [List.take_succ_eq_append_getElem h, sizeT_app]; simp [sizeT]
theorem sizeT_take (l : List Itm) (k : Nat) : sizeT (l.take k) ≤ sizeT l := sizeT_sub (List.take_sublist k l)
def zItm : Itm := ([], false, false, [])
/-- What Find hands out. -/
def findV (l : List Itm) (n : List UInt8) : Itm := (findT l n).getD zItm
theorem findT_at {l : List Itm} {n : List UInt8} {k : Nat} (h : k < l.length) (he : l[k].1 = n) (ht : findT (l.take k) n = none) : findT l n = some l[k] := by
  unfold findT at *
  conv => lhs; rw [← List.take_append_drop k l]
  rw [List.find?_append, ht, List.drop_eq_getElem_cons h, List.find?_cons_of_pos (by simpa using he)]
  rfl
theorem findT_step {l : List Itm} {n : List UInt8} {k : Nat} (h : k < l.length) (he : l[k].1 ≠ n) (ht : findT (l.take k) n = none) : findT (l.take (k + 1)) n = none := by
  unfold findT at *
  rw [List.take_succ_eq_append_getElem h, List.find?_append, ht]
  simp [he]

set_option maxHeartbeats 1100000 in
set_option maxRecDepth 100000 in
theorem r10find_walk (v : Value) (l : List Itm) (n : List UInt8) (w : World) (hr : ItRow w v l) (hcnt : l.length ≤ 1100000) :
    Calls Tryz.prog 53 #[v, S n] w fun e w' => e = .returned (.tuple #[ItV (findV l n), .bool (findT l n).isSome]) ∧ Below w.heap.size w w' := by
  obtain ⟨a, c, rfl, hc, hm, hx⟩ := hr
  have HX := Lib.hid hx
  clear hx
  unfold findV
  go_enter Tryz.func53, Tryz.ntmps53
  go_wp2
  go_loopw [6] (fun i wr => ∃ k : Nat, k ≤ l.length ∧ i = .int .i64 k ∧ findT (l.take k) n = none ∧ wr.heap[w.heap.size]? = some (.cells zC 50 (0, 0)) ∧ Below w.heap.size w wr) (fun i _ => l.length - (intOf i).toNat)
  case atStart => exact ⟨0, Nat.zero_le _, rfl, rfl, heap_alloc_new _ _, (Below.refl _ _).alloc (Nat.le_refl _) _⟩
  case round =>
    obtain ⟨k, hk, rfl, ht, hZ, hB⟩ := hrel
    have HT := Lib.hid ht
    have HB := Lib.hid hB
    have HZ := Lib.hid hZ
    clear ht
    by_cases h1 : k < l.length
    · have hx := HX.out
      rcases hx with hx | ⟨b, o, rfl, hx⟩
      · exfalso; rw [hx] at h1; simp at h1
      obtain ⟨hx1, hx2, hx3, hx4⟩ := it_cells hx h1
      have hc1 := cell_below hB hx1
      have hc2 := cell_below hB hx2
      have hc3 := cell_below hB hx3
      have hc4 := cell_below hB hx4
      have HE := Lib.hid (fun he : l[k].1 = n => findT_at h1 he HT.out)
      have HN := Lib.hid (fun he : l[k].1 ≠ n => findT_step h1 he HT.out)
      clear hx hx1 hx2 hx3 hx4 hB
      generalize l[k] = y at *
      obtain ⟨p, d, ex, dt⟩ := y
      have h1' : (k : Int) < (l.length : Int) := by omega
      by_cases hpn : p = n
      · subst hpn
        have HS := Lib.hid (HE.out rfl)
        have hpp : (p == p) = true := by simp
        obtain ⟨⟨r0, r1, r2, r3⟩, ⟨f0, f1, f2, f3⟩, ⟨s0, s1, s2, s3⟩⟩ := box4 HZ.out
        have HBS := Lib.hid (below_setT (below_setT (below_setT (below_setT HB.out (Nat.le_refl _) 0 (S p)) (Nat.le_refl _) 1 (.bool d)) (Nat.le_refl _) 2 (.bool ex)) (Nat.le_refl _) 3 (S dt))
        clear hZ
        go_wp2
        refine bodyPost_ret (v := .tuple #[ItV (p, d, ex, dt), .bool true]) (by simp [results, Tryz.results53, go_sem, s0, s1, s2, s3]) rfl ?_
        exact ⟨by rw [HS.out]; rfl, HBS.out⟩
      · have HS := Lib.hid (HN.out hpn)
        have hpp : (p == n) = false := by rw [beq_eq_false_iff_ne]; exact hpn
        go_wp2
        go_roundw
        case rel => exact ⟨k + 1, by omega, by go_num, HS.out, HZ.out, HB.out⟩
        case measure => simp [intOf]; omega
    · have h1' : ¬ (k : Int) < (l.length : Int) := by omega
      have HK := Lib.hid (show findT l n = none by rw [← HT.out, List.take_of_length_le (by omega)])
      obtain ⟨⟨r0, r1, r2, r3⟩, ⟨f0, f1, f2, f3⟩, ⟨s0, s1, s2, s3⟩⟩ := box4 HZ.out
      have HBS := Lib.hid (below_setT (below_setT (below_setT (below_setT HB.out (Nat.le_refl _) 0 (.string ⟨#[]⟩)) (Nat.le_refl _) 1 (.bool false)) (Nat.le_refl _) 2 (.bool false)) (Nat.le_refl _) 3 (.string ⟨#[]⟩))
      clear hZ
      go_wp2
      refine bodyPost_ret (v := .tuple #[ItV zItm, .bool false]) (by simp [zItm, results, Tryz.results53, go_sem, s0, s1, s2, s3]) rfl ?_
      exact ⟨by rw [HK.out]; rfl, HBS.out⟩

end Go.Proofs.YtkejdbidomlonaaGreatDoor

namespace Go.Proofs.YtkejdbidomlonaaGreatDoor
open Go.RowKit

set_option maxHeartbeats 1100000 in
set_option maxRecDepth 100000 in
theorem rorder_walk (l m : List UInt8) (w : World) (hl : l.length ≤ 1100000) (hm : m.length ≤ 1100000) :
    Calls Tryz.prog 30 #[S l, S m] w fun e w' => e = .returned (.int .i64 (cmpParts (partsL l) (partsL m))) ∧ Below w.heap.size w w' := by
  have C := rparts_walk l w hl
  have C' := fun w1 => rparts_walk m w1 hm
  have hcl := partsL_count l
  have hcm := partsL_count m
  generalize partsL l = xs at C hcl ⊢
  generalize partsL m = ys at C' hcm ⊢
  go_enter Tryz.func30, Tryz.ntmps30
  go_wp2_with fail
  refine C.mono ?_
  rintro e w1 ⟨v, rfl, hrx, hb⟩
  go_wp2_with fail
  refine (C' _).mono ?_
  rintro e w2 ⟨v2, rfl, ⟨a2, c2, rfl, hc2, hm2, hy⟩, hb2⟩
  obtain ⟨a, c, rfl, hc, hm1, hx⟩ := hrx.below hb2
  have HB := Lib.hid (below_chain hb hb2 hb.size)
  have HX := Lib.hid hx
  have HY := Lib.hid hy
  clear hx hy hb hb2 hrx C C'
  go_wp2
  go_loopw [7] (fun i wr => ∃ k : Nat, k ≤ xs.length ∧ k ≤ ys.length ∧ i = .int .i64 k ∧ Below w2.heap.size w2 wr ∧ cmpParts xs ys = cmpParts (xs.drop k) (ys.drop k)) (fun i _ => xs.length - (intOf i).toNat)
  case atStart => exact ⟨0, Nat.zero_le _, Nat.zero_le _, rfl, Below.refl _ _, rfl⟩
  case round =>
    obtain ⟨k, hk, hk', rfl, hbr, hcmp⟩ := hrel
    have HC := Lib.hid hcmp
    have HBR := Lib.hid hbr
    have HBB := Lib.hid (below_chain HB.out hbr HB.out.size)
    clear hcmp
    by_cases h1 : k < xs.length
    · by_cases h2 : k < ys.length
      · have hx := HX.out
        rcases hx with hx | ⟨b, o, rfl, hx⟩
        · exfalso; rw [hx] at h1; simp at h1
        have hy := HY.out
        rcases hy with hy | ⟨b2, o2, rfl, hy⟩
        · exfalso; rw [hy] at h2; simp at h2
        have hcx := cell_below hbr (hx k xs[k] (by simp [h1]))
        have hcy := cell_below hbr (hy k ys[k] (by simp [h2]))
        have HST := Lib.hid (cmpParts_step h1 h2)
        clear hx hy hbr
        generalize xs[k] = p at *
        generalize ys[k] = q at *
        have h1' : (k : Int) < (xs.length : Int) := by omega
        have h2' : (k : Int) < (ys.length : Int) := by omega
        rcases lt_or_eq_or_gt p q with hpq | hpq | hpq
        · have HE := Lib.hid hpq
          have hbl : Op.bytesLess p q = true := by rw [bytesLess_eq]; simpa using hpq
          clear hpq
          go_wp2
          go_quiet (fail)
          go_wp2
          go_ret
          exact ⟨ret_int (by rw [HC.out, HST.out, if_pos HE.out]), belowN HBB.out _⟩
        · subst hpq
          have hbl : Op.bytesLess p p = false := by rw [bytesLess_eq]; simp
          go_wp2
          go_quiet (fail)
          go_wp2
          go_quiet (fail)
          go_wp2
          go_roundw
          case rel => exact ⟨k + 1, by omega, by omega, by go_num, belowN HBR.out _, by rw [HC.out, HST.out, if_neg (List.lt_irrefl p), if_neg (List.lt_irrefl p)]⟩
          case measure => simp [intOf]; omega
        · have HE := Lib.hid hpq
          have hbl : Op.bytesLess p q = false := by rw [bytesLess_eq]; simpa using List.le_of_lt hpq
          have hne : (p == q) = false := by rw [beq_eq_false_iff_ne]; intro e; rw [e] at hpq; exact List.lt_irrefl q hpq
          have HLE := Lib.hid (show ¬ p < q from List.not_lt.2 (List.le_of_lt hpq))
          clear hpq
          go_wp2
          go_quiet (fail)
          go_wp2
          go_quiet (fail)
          go_wp2
          go_ret
          exact ⟨ret_int (by rw [HC.out, HST.out, if_neg HLE.out, if_pos HE.out]), belowN (belowN HBB.out _) _⟩
      · have hke : k = ys.length := by omega
        have hl : (ys.length : Int) < (xs.length : Int) := by omega
        have h1' : (k : Int) < (xs.length : Int) := by omega
        have h2' : ¬ (k : Int) < (ys.length : Int) := by omega
        have HK := Lib.hid hke
        clear hke hbr
        go_wp2
        go_ret
        exact ⟨ret_int (by rw [HC.out, cmpParts_long h1 (Nat.le_of_eq HK.out.symm)]), HBB.out⟩
    · have hke : k = xs.length := by omega
      have h1' : ¬ (k : Int) < (xs.length : Int) := by omega
      have HK := Lib.hid hke
      clear hbr
      by_cases h2 : k < ys.length
      · have hl : (xs.length : Int) < (ys.length : Int) := by omega
        clear hke
        go_wp2
        go_ret
        exact ⟨ret_int (by rw [HC.out, cmpParts_short h2 (Nat.le_of_eq HK.out.symm)]), HBB.out⟩
      · have hl : (xs.length : Int) = (ys.length : Int) := by omega
        have hl1 : ¬ (xs.length : Int) < (ys.length : Int) := by omega
        have hl2 : ¬ (ys.length : Int) < (xs.length : Int) := by omega
        clear hl hke
        go_wp2
        go_ret
        exact ⟨ret_int (by rw [HC.out, cmpParts_even (Nat.le_of_eq HK.out.symm) (by omega)]), HBB.out⟩
end Go.Proofs.YtkejdbidomlonaaGreatDoor

namespace Go.Proofs.YtkejdbidomlonaaGreatDoor
open Go.RowKit


set_option maxHeartbeats 1100000 in
set_option maxRecDepth 100000 in
theorem r10under_walk (v : Value) (l : List Itm) (p : List UInt8) (w : World) (hr : ItRow w v l) (hcnt : l.length ≤ 1100000) (hp : p.length ≤ 1100000) :
    Calls Tryz.prog 31 #[v, S p] w fun e w' => e = .returned (.bool (underT l p)) ∧ Below w.heap.size w w' := by
  have C := rdir_walk p w hp
  have HU := Lib.hid (show underT l p = (dirL p == [] || (match findT l (dirL p) with | some y => y.2.1 | none => false)) from rfl)
  have CF := fun w h => r10find_walk v l (dirL p) w h hcnt
  unfold findV at CF
  generalize underT l p = res at *
  generalize dirL p = d at *
  generalize findT l d = fo at *
  by_cases hd : d = []
  · subst hd
    have HR := Lib.hid (show res = true by rw [HU.out]; rfl)
    clear HU CF
    go_enter Tryz.func31, Tryz.ntmps31
    go_wp2_with (go_at_call 40; refine (C).mono ?_; rintro e w1 ⟨rfl, hb1⟩)
    go_ret
    exact ⟨by rw [HR.out]; rfl, hb1⟩
  · have hde : (d == []) = false := by rw [beq_eq_false_iff_ne]; exact hd
    clear hd
    cases fo with
    | none =>
      have HR := Lib.hid (show res = false by rw [HU.out, hde]; rfl)
      clear HU
      go_enter Tryz.func31, Tryz.ntmps31
      go_wp2_with (first | (go_at_call 40; refine (C).mono ?_; rintro e w1 ⟨rfl, hb1⟩) | (go_at_call 53; refine (CF _ (hr.below hb1)).mono ?_; rintro e w2 ⟨rfl, hb2⟩))
      go_ret
      exact ⟨by rw [HR.out]; rfl, (below_chain hb1 hb2 hb1.size).alloc (Nat.le_trans hb1.size hb2.size) _⟩
    | some y =>
      obtain ⟨yp, yd, ye, yt⟩ := y
      simp only [Option.getD_some, Option.isSome_some] at CF
      have HR := Lib.hid (show res = yd by rw [HU.out, hde]; rfl)
      clear HU
      go_enter Tryz.func31, Tryz.ntmps31
      go_wp2_with (first | (go_at_call 40; refine (C).mono ?_; rintro e w1 ⟨rfl, hb1⟩) | (go_at_call 53; refine (CF _ (hr.below hb1)).mono ?_; rintro e w2 ⟨rfl, hb2⟩))
      go_ret
      exact ⟨by rw [HR.out]; rfl, (below_chain hb1 hb2 hb1.size).alloc (Nat.le_trans hb1.size hb2.size) _⟩

theorem take_snoc_eq {α : Type} {l m : List α} {k : Nat} (h1 : k < l.length) (h2 : k < m.length) (h : l.take k = m.take k) (he : l[k] = m[k]) : l.take (k + 1) = m.take (k + 1) := by
  rw [List.take_succ_eq_append_getElem h1, List.take_succ_eq_append_getElem h2, h, he]
theorem at_ne {α : Type} {l m : List α} {k : Nat} (h1 : k < l.length) (h2 : k < m.length) (h : l[k] ≠ m[k]) : l ≠ m := by
  intro e; subst e; exact h rfl
/-- Two items that differ, in the walk's words. -/
theorem itm_ne {p1 p2 t1 t2 : List UInt8} {d1 d2 e1 e2 : Bool} (h : ((p1, d1, e1, t1) : Itm) ≠ (p2, d2, e2, t2)) :
    ((p1 == p2) = false) ∨ ((p1 == p2) = true ∧ (d1 == d2) = false) ∨ ((p1 == p2) = true ∧ (d1 == d2) = true ∧ (e1 == e2) = false) ∨ ((p1 == p2) = true ∧ (d1 == d2) = true ∧ (e1 == e2) = true ∧ (t1 == t2) = false) := by
  by_cases h1 : p1 = p2
  · by_cases h2 : d1 = d2
    · by_cases h3 : e1 = e2
      · by_cases h4 : t1 = t2
        · exact absurd (by rw [h1, h2, h3, h4]) h
        · exact .inr (.inr (.inr ⟨by simpa using h1, by simpa using h2, by simpa using h3, by simpa using h4⟩))
      · exact .inr (.inr (.inl ⟨by simpa using h1, by simpa using h2, by simpa using h3⟩))
    · exact .inr (.inl ⟨by simpa using h1, by simpa using h2⟩)
  · exact .inl (by simpa using h1)

end Go.Proofs.YtkejdbidomlonaaGreatDoor
