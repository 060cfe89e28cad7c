/- Counts of roots, as a list of what is reached; how many there are in all: plain. count's spread: a queue of keys, each changed as it comes up. Counts in memory. -/
import Derived.Test.YtaompdnnkfmjhaaGreatDoorJCountT
import Derived.Test.YtaompdnnkfmjhaaGreatDoorJMapI
import Derived.Test.YtaompdnnkfmjhaaGreatDoorJRowG
import Derived.Deep.LoopGhost
import Derived.Maps.AppendAt
namespace Go.Proofs.YtaompdnnkfmjhaaGreatDoor

section
variable {kids : List UInt8 → List (List UInt8)}
theorem plus_run {U : List (List UInt8)} (hU : U.Nodup) (hk : ∀ k, k ∉ U → kids k = []) : ∀ (m : Nat) (s : QC), FitCn s.2 → sizeQ kids U true s ≤ m → ∃ c', iterQ (plusS kids) m s = ([], c') ∧ FitCn c'
  | 0, (q, c), hc, h => by
    have : q = [] := List.eq_nil_of_length_eq_zero (by unfold sizeQ at h; simp only at h; omega)
    subst this
    exact ⟨c, rfl, hc⟩
  | m + 1, (q, c), hc, h => by
    cases q with
    | nil =>
      refine ⟨c, ?_, hc⟩
      exact iterQ_fix (f := plusS kids) (s := ([], c)) rfl (m + 1)
    | cons k qs =>
      have h1 := plusS_size (c := c) hU hk (k := k) (qs := qs) hc
      exact plus_run hU hk m (plusS kids (k :: qs, c)) (chg_plus hc k).1 (by omega)
theorem iter_eq (hkd : ∀ k, (kids k).Nodup) {rs : List (List UInt8)} : ∀ (n : Nat) {s : QC}, EqQ kids rs s → EqQ kids rs (iterQ (plusS kids) n s)
  | 0, _, h => h
  | n + 1, _, h => iter_eq hkd n (plusS_eq hkd h)
/-- All that is queued or counted is of a kind. -/
def SupQ (P : List UInt8 → Prop) (s : QC) : Prop := (∀ k ∈ s.1, P k) ∧ ∀ k, cntC s.2 k ≠ 0 → P k
theorem plusS_sup {P : List UInt8 → Prop} (hP : ∀ k y, P k → y ∈ kids k → P y) {s : QC} (hf : FitCn s.2) (h : SupQ P s) : SupQ P (plusS kids s) := by
  obtain ⟨q, c⟩ := s
  cases q with
  | nil => exact h
  | cons p qs =>
    obtain ⟨h1, h2⟩ := h
    have hp := h1 p List.mem_cons_self
    have hqs : ∀ k ∈ qs, P k := fun k hk => h1 k (List.mem_cons_of_mem _ hk)
    refine ⟨fun k hk => ?_, fun k hk => ?_⟩
    · unfold plusS at hk
      simp only at hk
      split at hk
      · exact (List.mem_append.1 hk).elim (hqs k) (fun h => hP p k hp h)
      · exact hqs k hk
    · have hch := (chg_plus hf p).2 k
      change cntC (chgC c p 1) k ≠ 0 at hk
      rw [hch] at hk
      by_cases e : k = p
      · exact e ▸ hp
      · rw [if_neg e] at hk; exact h2 k hk
theorem iter_sup {P : List UInt8 → Prop} (hP : ∀ k y, P k → y ∈ kids k → P y) : ∀ (n : Nat) {s : QC}, FitCn s.2 → SupQ P s → SupQ P (iterQ (plusS kids) n s)
  | 0, _, _, h => h
  | n + 1, (q, c), hf, h => iter_sup hP n (by
    cases q with
    | nil => exact hf
    | cons p qs => exact (chg_plus hf p).1) (plusS_sup hP hf h)
/-- Counts of some roots. -/
structure Counts (kids : List UInt8 → List (List UInt8)) (rs : List (List UInt8)) (c : List Cnt) : Prop where
  fit : FitCn c
  eq : ∀ k, cntC c k = rs.count k + (namesC kids c k : Nat)
theorem Counts.nil (kids : List UInt8 → List (List UInt8)) : Counts kids [] [] := ⟨⟨List.Pairwise.nil, by simp⟩, fun k => by simp [cntC, namesC]⟩
theorem Counts.start {rs : List (List UInt8)} {c : List Cnt} (h : Counts kids rs c) (r : List UInt8) : EqQ kids (rs ++ [r]) ([r], c) := by
  refine ⟨h.fit, fun k => ?_⟩
  have := h.eq k
  rw [List.count_append]
  show cntC c k + ([r].count k : Nat) = ((rs.count k + [r].count k : Nat) : Int) + (namesC kids c k : Nat)
  omega
theorem Counts.of_end {rs : List (List UInt8)} {c : List Cnt} (h : EqQ kids rs ([], c)) : Counts kids rs c := ⟨h.1, fun k => by have := h.2 k; simpa using this⟩
theorem names_pos {c : List Cnt} {p k : List UInt8} (hp : p ∈ c.map (·.1)) (hk : k ∈ kids p) : 1 ≤ namesC kids c k := List.length_pos_of_mem (List.mem_filter.2 ⟨hp, by simpa using hk⟩)
/-- What is counted is what is reached. -/
theorem Counts.closed {rs : List (List UInt8)} {c : List Cnt} (h : Counts kids rs c) : (∀ k ∈ rs, cntC c k ≠ 0) ∧ ∀ p k, cntC c p ≠ 0 → k ∈ kids p → cntC c k ≠ 0 := by
  refine ⟨fun k hk => ?_, fun p k hp hk => ?_⟩
  · have h1 := h.eq k
    have h2 := List.count_pos_iff.2 hk
    omega
  · have h1 := h.eq k
    have h2 := names_pos ((cntC_pos h.fit).2 hp) hk
    omega
/-- The document's counts, out of the keys that are reached. -/
def ofC (kids : List UInt8 → List (List UInt8)) (rs all : List (List UInt8)) : List Cnt := all.map fun k => (k, (rs.count k : Int) + ((all.filter fun p => decide (k ∈ kids p)).length : Nat))
theorem cnt_list {c : List Cnt} (hc : FitCn c) : c = (c.map (·.1)).map fun k => (k, cntC c k) := by
  have hv : ∀ {l : List Cnt}, FitCn l → ∀ y ∈ l, cntC l y.1 = y.2 := by
    intro l hl
    induction l with
    | nil => simp
    | cons x l ih =>
      intro y hy
      obtain ⟨ht, hlt⟩ := hl.tail
      rw [cntC_cons]
      rcases List.mem_cons.1 hy with rfl | hy
      · rw [if_pos rfl]
      · rw [if_neg (fun e => by have := hlt y hy; rw [e] at this; exact List.lt_irrefl _ this), ih ht y hy]
  rw [List.map_map]
  conv => lhs; rw [← List.map_id c]
  exact List.map_congr_left fun y hy => Prod.ext rfl (hv hc y hy).symm
theorem Counts.is_of {rs all : List (List UInt8)} {c : List Cnt} (h : Counts kids rs c) (hu : upS all) (ha : ∀ k, k ∈ all ↔ cntC c k ≠ 0) : c = ofC kids rs all := by
  have hk : c.map (·.1) = all := up_ext h.fit.up hu fun k => by rw [cntC_pos h.fit, ha]
  rw [cnt_list h.fit, hk]
  unfold ofC
  refine List.map_congr_left fun k _ => ?_
  rw [h.eq k]
  unfold namesC
  rw [hk]

/-! All together. -/
theorem sum_count : ∀ {K rs : List (List UInt8)}, K.Nodup → (∀ x ∈ rs, x ∈ K) → (K.map fun k => rs.count k).sum = rs.length
  | K, [], _, _ => by
    have : ∀ l : List (List UInt8), (l.map fun k => ([] : List (List UInt8)).count k).sum = 0 := by
      intro l
      induction l with
      | nil => rfl
      | cons x l ih => rw [List.map_cons, List.sum_cons, ih]; rfl
    exact this K
  | K, r :: rs, hK, h => by
    have ih := sum_count (rs := rs) hK fun x hx => h x (List.mem_cons_of_mem _ hx)
    have key : ∀ l : List (List UInt8), (l.map fun k => (r :: rs).count k).sum = (l.map fun k => rs.count k).sum + l.count r := by
      intro l
      induction l with
      | nil => rfl
      | cons x l ih2 =>
        rw [List.map_cons, List.sum_cons, List.map_cons, List.sum_cons, ih2, List.count_cons, List.count_cons]
        by_cases e : r = x
        · subst e; simp; omega
        · have e2 : x ≠ r := fun h => e h.symm
          simp [e, e2]; omega
    rw [key, ih, hK.count, if_pos (h r List.mem_cons_self), List.length_cons]
theorem sum_names (hkd : ∀ k, (kids k).Nodup) {K : List (List UInt8)} (hK : K.Nodup) : ∀ (L : List (List UInt8)), (∀ p ∈ L, ∀ k ∈ kids p, k ∈ K) → (K.map fun k => (L.filter fun p => decide (k ∈ kids p)).length).sum = (L.map fun p => (kids p).length).sum
  | [], _ => by
    have : ∀ l : List (List UInt8), (l.map fun _ => ([] : List (List UInt8)).length).sum = 0 := by
      intro l
      induction l with
      | nil => rfl
      | cons x l ih => rw [List.map_cons, List.sum_cons, ih]; rfl
    exact this K
  | p :: L, h => by
    have ih := sum_names hkd hK L fun q hq => h q (List.mem_cons_of_mem _ hq)
    have h1 := sum_count hK (h p List.mem_cons_self)
    have key : ∀ l : List (List UInt8), (l.map fun k => ((p :: L).filter fun q => decide (k ∈ kids q)).length).sum = (l.map fun k => (kids p).count k).sum + (l.map fun k => (L.filter fun q => decide (k ∈ kids q)).length).sum := by
      intro l
      induction l with
      | nil => rfl
      | cons x l ih2 =>
        rw [List.map_cons, List.sum_cons, List.map_cons, List.sum_cons, List.map_cons, List.sum_cons, ih2, (hkd p).count]
        by_cases e : x ∈ kids p
        · rw [List.filter_cons_of_pos (by simpa using e), if_pos e, List.length_cons]; omega
        · rw [List.filter_cons_of_neg (by simpa using e), if_neg e]; omega
    rw [key, h1, ih, List.map_cons, List.sum_cons]
/-- All counts together. -/
theorem Counts.sums (hkd : ∀ k, (kids k).Nodup) {rs : List (List UInt8)} {c : List Cnt} (h : Counts kids rs c) : (c.map (·.2)).sum = (rs.length : Int) + (((c.map (·.1)).map fun p => (kids p).length).sum : Nat) := by
  obtain ⟨h1, h2⟩ := h.closed
  have hn := up_nodup h.fit.up
  have e1 : (c.map (·.2)) = (c.map (·.1)).map (cntC c) := by
    conv => lhs; rw [cnt_list h.fit]
    rw [List.map_map]
    rfl
  rw [e1]
  have key : ∀ l : List (List UInt8), (l.map (cntC c)).sum = ((l.map fun k => rs.count k).sum : Nat) + ((l.map fun k => ((c.map (·.1)).filter fun p => decide (k ∈ kids p)).length).sum : Nat) := by
    intro l
    induction l with
    | nil => rfl
    | cons x l ih =>
      rw [List.map_cons, List.sum_cons, List.map_cons, List.sum_cons, List.map_cons, List.sum_cons, ih, h.eq x]
      unfold namesC
      omega
  rw [key, sum_count hn (fun x hx => (cntC_pos h.fit).2 (h1 x hx)), sum_names hkd hn _ (fun p hp k hk => (cntC_pos h.fit).2 (h2 p k ((cntC_pos h.fit).1 hp) hk))]
end
end Go.Proofs.YtaompdnnkfmjhaaGreatDoor

namespace Go.Proofs.YtaompdnnkfmjhaaGreatDoor
open Go.RowKit

/-- The counts as the map holds them. -/
def CMap (w : World) (b N : Nat) (c : List Cnt) : Prop := ∃ F, IMap w b N F ∧ (∀ k, (F k).getD 0 = cntC c k) ∧ FitCn c ∧ ∀ k, cntC c k ≤ 1099511627776 + N
theorem CMap.block {w w' : World} {b N : Nat} {c : List Cnt} (h : CMap w b N c) (hb : w'.heap[b]? = w.heap[b]?) : CMap w' b N c := by
  obtain ⟨F, h1, h2⟩ := h
  exact ⟨F, h1.block hb, h2⟩
theorem CMap.kept {w w' : World} {b N : Nat} {c : List Cnt} (h : CMap w b N c) (hb : Below w.heap.size w w') : CMap w' b N c := by
  obtain ⟨F, h1, h2⟩ := h
  exact ⟨F, h1.kept hb, h2⟩
theorem CMap.lt {w : World} {b N : Nat} {c : List Cnt} (h : CMap w b N c) : b < w.heap.size := by obtain ⟨F, h1, _⟩ := h; exact h1.lt
theorem CMap.mono {w : World} {b N M : Nat} {c : List Cnt} (h : CMap w b N c) (hn : N ≤ M) : CMap w b M c := by
  obtain ⟨F, h1, h2, h3, h4⟩ := h
  exact ⟨F, h1.mono hn, h2, h3, fun k => by have := h4 k; omega⟩
theorem CMap.noText {w : World} {b N : Nat} {c : List Cnt} (h : CMap w b N c) (cur : Array Value) : w.heap[b]? ≠ some (.cells cur 9 (0, 0)) := by
  obtain ⟨F, ⟨D, ⟨es, clock, hb, _⟩, _⟩, _⟩ := h
  rw [hb]; simp
theorem grown_of_below {w w' : World} (h : Below w.heap.size w w') (row : Option Nat) : w.grownBy w' row := ⟨h.os, h.tape, h.output, h.size, fun k hk _ => h.block k hk⟩
theorem grown_of_base {w wr w' : World} {row : Option Nat} (h : w.grownBy wr row) (hb : Below w.heap.size wr w') : w.grownBy w' row := ⟨hb.os.trans h.os, hb.tape.trans h.tape, hb.output.trans h.output, Nat.le_trans h.size hb.size, fun k hk hne => (hb.block k hk).trans (h.block k hk hne)⟩

/-- One step of a queue, and how many are to come. -/
structure StepF (kids : List UInt8 → List (List UInt8)) (f : QC → QC) (flag : List Cnt → List UInt8 → Bool) (upd : List Cnt → List UInt8 → List Cnt) (size : QC → Nat) : Prop where
  step : ∀ k qs c, f (k :: qs, c) = (qs ++ (if flag c k = true then kids k else []), upd c k)
  less : ∀ k qs c, FitCn c → size (f (k :: qs, c)) + 1 ≤ size (k :: qs, c)
  len : ∀ s, s.1.length ≤ size s

/-- Between two rounds of spread. -/
def SpreadI (w : World) (mb N M : Nat) (f : QC → QC) (size : QC → Nat) (key : List UInt8) (c : List Cnt) (g : Nat) (v : Value) (wr : World) : Prop :=
  ∃ (n : Nat) (q : List (List UInt8)) (c' : List Cnt), Hid (iterQ f n ([key], c) = (q, c')) ∧ Hid (size (q, c') ≤ g ∧ n + g ≤ M) ∧ Hid (QOwn wr w.heap.size v q) ∧ Hid (CMap wr mb (N + n) c') ∧ Hid (w.grownBy wr (some mb)) ∧ Hid (∀ x ∈ q, x.length ≤ maxLen)

set_option maxHeartbeats 4000000 in
set_option maxRecDepth 100000 in
theorem spread_walk (mb N M gN gC : Nat) (capsN capsC : Array Value) (kids : List UInt8 → List (List UInt8)) (f : QC → QC) (flag : List Cnt → List UInt8 → Bool) (upd : List Cnt → List UInt8 → List Cnt) (size : QC → Nat) (HF : StepF kids f flag upd size) (key : List UInt8) (c : List Cnt) (w : World)
    (henN : ∀ args w, (callFunc gN args).run Tryz.prog w = .ok (.enter gN args) w) (henC : ∀ args w, (callFunc gC args).run Tryz.prog w = .ok (.enter gC args) w)
    (hm : CMap w mb N c) (hM : size ([key], c) ≤ M) (hM2 : M ≤ 1000000) (hkl : key.length ≤ maxLen) (hkk : ∀ k, ∀ y ∈ kids k, y.length ≤ maxLen)
    (hN : ∀ k w', w.grownBy w' (some mb) → Calls Tryz.prog gN (#[S k] ++ capsN) w' fun e w'' => ∃ v, e = .returned v ∧ StrRow w'' v (kids k) ∧ Below w'.heap.size w' w'')
    (hC : ∀ k c' n w', w.grownBy w' (some mb) → CMap w' mb (N + n) c' → n ≤ M → k.length ≤ maxLen → Calls Tryz.prog gC (#[S k] ++ capsC) w' fun e w'' => e = .returned (.bool (flag c' k)) ∧ CMap w'' mb (N + (n + 1)) (upd c' k) ∧ w'.grownBy w'' (some mb)) :
    Calls Tryz.prog 43 #[.map (some mb), S key, .func (.func gN) #[] capsN, .func (.func gC) #[] capsC] w fun e w' => e = .returned (.tuple #[]) ∧ ∃ n c', iterQ f n ([key], c) = ([], c') ∧ CMap w' mb (N + M) c' ∧ w.grownBy w' (some mb) := by
  obtain ⟨is, his, hq0, hq1, hq2⟩ := info_parts infoStr
  have HQ1 := Lib.hid (QOwn.one (base := w.heap.size) w (Nat.le_refl _) key)
  have HB1 := Lib.hid (show Below w.heap.size w (w.alloc (.cells #[S key] 9)) from (Below.refl _ _).alloc (Nat.le_refl _) _)
  have HM1 := Lib.hid (hm.kept HB1.out)
  have HSZ := Lib.hid hM
  have HKL := Lib.hid hkl
  have HKK := Lib.hid hkk
  have HN := Lib.hid hN
  have HC := Lib.hid hC
  have HMLT := Lib.hid hm.lt
  have HFF := Lib.hid HF
  clear hm hM hkl hkk hN hC HF
  go_enter Tryz.func43, Tryz.ntmps43
  go_wp2
  obtain ⟨w1, hw1⟩ : ∃ w1, w1 = w.alloc (.cells #[S key] 9) := ⟨_, rfl⟩
  rw [← hw1] at HQ1 HB1 HM1 ⊢
  clear hw1
  go_loopg [8] M (fun g v wr => SpreadI w mb N M f size key c g v wr)
  case atStart => exact ⟨0, [key], c, Lib.hid rfl, Lib.hid ⟨HSZ.out, by omega⟩, HQ1, HM1, Lib.hid (grown_of_below HB1.out _), Lib.hid (by intro x hx; rw [List.mem_singleton.1 hx]; exact HKL.out)⟩
  case round =>
    obtain ⟨n, q, c', HIT, HNG, HQ, HM, HG, HL⟩ := hrel
    have hQ := HQ.out
    obtain ⟨qg, off, cap, cur, rfl, -, -, hcap, hcm, -⟩ := hQ
    cases q with
    | nil =>
      go_wp2
      go_end0
      exact ⟨rfl, n, c', HIT.out, HM.out.mono (by have := HNG.out; omega), HG.out⟩
    | cons k qs =>
      have hc0 := HQ.out.head
      have HCAP := Lib.hid hcap
      have HCM := Lib.hid hcm
      rw [List.length_cons] at hcap
      have hpos : (0 : Int) < ((qs.length + 1 : Nat) : Int) := by omega
      have hst := HFF.out.step k qs c'
      have hit : iterQ f (n + 1) ([key], c) = (qs ++ (if flag c' k = true then kids k else []), upd c' k) := by rw [iterQ_snoc, HIT.out, hst]
      have HITN := Lib.hid hit
      have hls := HFF.out.less k qs c' (by obtain ⟨_, _, _, h, _⟩ := HM.out; exact h)
      rw [hst] at hls
      have HLS := Lib.hid hls
      have hlq := HFF.out.len (k :: qs, c')
      have hln := HFF.out.len (qs ++ (if flag c' k = true then kids k else []), upd c' k)
      have HLN := Lib.hid (show qs.length + 1 ≤ 1000000 ∧ (qs ++ (if flag c' k = true then kids k else [])).length ≤ 1000000 by have := HNG.out; simp only [List.length_cons] at hlq; simp only at hln; omega)
      have CC := HC.out k c' n wr HG.out HM.out (by have := HNG.out; omega) (HL.out k List.mem_cons_self)
      clear hst hit hls hlq hln hcap hcm
      generalize flag c' k = fl at *
      generalize upd c' k = cn at *
      go_wp2_with fail
      refine CC.mono ?_
      rintro e w2 ⟨rfl, hm2, hg2⟩
      have HM2 := Lib.hid hm2
      have HG2 := Lib.hid (World.grownBy.trans HG.out hg2)
      have HQ2 := Lib.hid (HQ.out.other HM.out.noText (fun j hj hne => hg2.block j hj (fun e => hne (Option.some.inj e))))
      have hc2 := HQ2.out.head
      have HSZ2 := Lib.hid HG2.out.size
      clear CC hm2 hg2 hc0
      cases fl with
      | false =>
        have hg1 : 1 ≤ gk := by
          have h1 := HFF.out.len (k :: qs, c')
          have := HNG.out
          simp only [List.length_cons] at h1
          omega
        have HTL1 := HQ2.out.tail
        have HSS := Lib.hid (show size (qs, cn) ≤ gk - 1 ∧ n + 1 + (gk - 1) ≤ M by
          have h1 := HLS.out
          have h2 := HNG.out
          simp only [Bool.false_eq_true, if_false, List.append_nil] at h1
          omega)
        have HII := Lib.hid (show iterQ f (n + 1) ([key], c) = (qs, cn) by rw [HITN.out]; simp)
        clear hc2
        by_cases hc1 : cap = 1
        · subst hc1
          rw [if_pos rfl] at HTL1
          have HTL := Lib.hid HTL1
          clear HTL1
          go_wp2
          go_roundg (gk - 1)
          case measure => omega
          case rel => exact ⟨n + 1, qs, cn, HII, HSS, HTL, HM2, HG2, Lib.hid (fun x hx => HL.out x (List.mem_cons_of_mem _ hx))⟩
        · rw [if_neg hc1] at HTL1
          have HTL := Lib.hid HTL1
          clear HTL1
          go_wp2
          go_roundg (gk - 1)
          case measure => omega
          case rel => exact ⟨n + 1, qs, cn, HII, HSS, HTL, HM2, HG2, Lib.hid (fun x hx => HL.out x (List.mem_cons_of_mem _ hx))⟩
      | true =>
        have CN := HN.out k w2 HG2.out
        go_wp2_with fail
        refine CN.mono ?_
        rintro e w3 ⟨v3, rfl, hr3, hb3⟩
        have HM3 := Lib.hid (HM2.out.kept hb3)
        have HG3 := Lib.hid (grown_of_below hb3 (some mb))
        have HG3b := Lib.hid (World.grownBy.trans HG2.out HG3.out)
        have HQ3 := Lib.hid (HQ2.out.kept hb3)
        have HR3 := Lib.hid hr3
        have HB3 := Lib.hid hb3
        obtain ⟨ra, rc, rfl, -, -, -⟩ := hr3
        clear CN hb3 hc2
        have hln := HLN.out.2
        simp only [if_true] at hln
        rw [List.length_append] at hln
        go_wp2_with (at_builtin; refine wpList_append_q rfl _ _ 23 rfl w.heap.size is (.string ⟨#[]⟩) Tryz.underlying23 his hq0 hq1 hq2 rfl _ (k :: qs) rfl HQ3.out _ (kids k) rfl HR3.out (by rw [List.length_cons]; omega) (by have := HG3b.out.size; omega) ?_)
        intro v4 w4 hq4 hb4
        have HM4 := Lib.hid (show CMap w4 mb (N + (n + 1)) cn from HM3.out.block (hb4.block _ HMLT.out))
        have HG4 := Lib.hid (grown_of_base HG3b.out hb4)
        replace hq4 : QOwn w4 w.heap.size v4 (k :: (qs ++ kids k)) := hq4
        have HQ4 := Lib.hid hq4
        obtain ⟨g4, off4, cap4, cur4, rfl, -, -, hc4, hcm4, -⟩ := hq4
        rw [List.length_cons] at hc4 HQ4 ⊢
        have hg1 : 1 ≤ gk := by
          have h1 := HFF.out.len (k :: qs, c')
          have := HNG.out
          simp only [List.length_cons] at h1
          omega
        have hpos4 : (1 : Int) ≤ (((qs ++ kids k).length + 1 : Nat) : Int) := by omega
        have HTL1 := HQ4.out.tail
        have HSS := Lib.hid (show size (qs ++ kids k, cn) ≤ gk - 1 ∧ n + 1 + (gk - 1) ≤ M by
          have h1 := HLS.out
          have h2 := HNG.out
          simp only [if_true] at h1
          omega)
        have HII := Lib.hid (show iterQ f (n + 1) ([key], c) = (qs ++ kids k, cn) by rw [HITN.out]; simp)
        have HLL := Lib.hid (show ∀ x ∈ qs ++ kids k, x.length ≤ maxLen from fun x hx => (List.mem_append.1 hx).elim (fun h => HL.out x (List.mem_cons_of_mem _ h)) (fun h => HKK.out k x h))
        have hcap4 : (((qs ++ kids k).length + 1 : Nat) : Int) ≤ (cap4 : Int) := by omega
        have hcc4 : (cap4 : Int) ≤ 9223372036854775807 := by unfold maxLen at hcm4; omega
        clear hc4 hcm4 hln
        by_cases hc1 : cap4 = 1
        · subst hc1
          rw [if_pos rfl] at HTL1
          have HTL := Lib.hid HTL1
          clear HTL1
          go_wp2
          go_roundg (gk - 1)
          case measure => omega
          case rel => exact ⟨n + 1, qs ++ kids k, cn, HII, HSS, Lib.hid (by have h := HTL.out; rw [List.length_append] at h; exact h), HM4, HG4, HLL⟩
        · rw [if_neg hc1] at HTL1
          have HTL := Lib.hid HTL1
          clear HTL1
          go_wp2
          go_roundg (gk - 1)
          case measure => omega
          case rel => exact ⟨n + 1, qs ++ kids k, cn, HII, HSS, Lib.hid (by have h := HTL.out; rw [List.length_append] at h; exact h), HM4, HG4, HLL⟩
end Go.Proofs.YtaompdnnkfmjhaaGreatDoor

namespace Go.Proofs.YtaompdnnkfmjhaaGreatDoor
open Go.RowKit

abbrev cnC (x : Cnt) : List Value := [S x.1, .int .i64 x.2]
abbrev CnV (x : Cnt) : Value := .agg #[S x.1, .int .i64 x.2]
abbrev CntRow := Row cnC
theorem infoCnt : (Tryz.prog.info? 41).map (fun i => (i.zero, i.size, i.bytes)) = some (some (.agg #[.string ⟨#[]⟩, .int .i64 0]), 2, 24) := by kernel_rfl
theorem cnt_cells {w : World} {b o : Nat} {xs : List Cnt} (h : ∀ j x, xs[j]? = some x → ∀ i u, (cnC x)[i]? = some u → w.cell? ⟨b, o + j * (cnC x).length + i, none⟩ = some u) {j : Nat} (hj : j < xs.length) :
    w.cell? ⟨b, o + j * 2, none⟩ = some (S xs[j].1) ∧ w.cell? ⟨b, o + j * 2 + 1, none⟩ = some (.int .i64 xs[j].2) := by
  have h0 := h j xs[j] (by simp [hj])
  exact ⟨h0 0 _ rfl, h0 1 _ rfl⟩
theorem cnC_len (x : Cnt) : (cnC x).length = 2 := rfl
theorem cn_one (x : Cnt) : ∀ u ∈ cnC x, u.oneCell' = true := by
  intro u hu; simp at hu; rcases hu with rfl | rfl <;> rfl
end Go.Proofs.YtaompdnnkfmjhaaGreatDoor
