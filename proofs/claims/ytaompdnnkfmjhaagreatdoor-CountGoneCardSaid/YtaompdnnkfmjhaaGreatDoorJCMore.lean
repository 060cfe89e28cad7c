/- Objects, and one more: plain. How long the queues of roots get: plain. count's map out of counts; one more, one less of a key; a root more. A law for a range over a function whose iterator lays and turns blocks of its own while the rounds lay and turn theirs: Ow says which block is not the rounds'. -/
import Derived.Test.YtaompdnnkfmjhaaGreatDoorJKSet
import Derived.Test.YtaompdnnkfmjhaaGreatDoorJUpN
import Derived.Test.YtaompdnnkfmjhaaGreatDoorJCSpread
import Derived.Test.YtaompdnnkfmjhaaGreatDoorJCList
import Derived.Test.YtaompdnnkfmjhaaGreatDoorJKeysOf
import Derived.Test.YtaompdnnkfmjhaaGreatDoorJRange
namespace Go.Proofs.YtaompdnnkfmjhaaGreatDoor

def addO (l : List Snp) (x : Snp) : List Snp := if (findR l x.1).isSome = true ∨ x.1.length ≠ 32 then l else insR l x
theorem findR_is {l : List Snp} {n : List UInt8} (hu : upS (namesR l)) : (findR l n).isSome = decide (n ∈ namesR l) := by
  by_cases hin : n ∈ namesR l
  · obtain ⟨_, hf⟩ := findR_pos hu hin
    rw [hf]; simp [hin]
  · rw [findR_none hin]; simp [hin]
theorem names_ins {l : List Snp} {x : Snp} (hu : upS (namesR l)) (hx : x.1 ∉ namesR l) : namesR (insR l x) = addL (namesR l) x.1 := by
  have h2 := withK_up (key := (id : List UInt8 → List UInt8)) (l := namesR l) (f := x.1) (by simpa using hu)
  rw [insR_pos hx]
  unfold addL
  rw [if_neg hx, h2]
  simp only [List.map_id, id]
  rw [if_neg hx]
  simp [namesR, List.map_take, List.map_drop]
theorem insO_len {l : List Snp} {x : Snp} (hx : x.1 ∉ namesR l) : (insR l x).length = l.length + 1 := by
  have h := posL_le (namesR l) x.1
  rw [namesR_len] at h
  rw [insR_pos hx]; simp; omega
theorem addO_len (l : List Snp) (x : Snp) : (addO l x).length ≤ l.length + 1 := by
  unfold addO
  split
  · omega
  · rw [show (insR l x).length = l.length + 1 from by
      unfold insR
      have := congrArg List.length (List.takeWhile_append_dropWhile (p := fun y => !decide (x.1 < y.1)) (l := l))
      rw [List.length_append] at this
      simp only [List.length_append, List.length_cons]; omega]
    exact Nat.le_refl _
theorem mem_insO {l : List Snp} {x y : Snp} : y ∈ insR l x ↔ y = x ∨ y ∈ l := by
  unfold insR
  rw [List.mem_append, List.mem_cons]
  have h : y ∈ l ↔ y ∈ l.takeWhile (fun y => !decide (x.1 < y.1)) ∨ y ∈ l.dropWhile (fun y => !decide (x.1 < y.1)) := by
    rw [← List.mem_append, List.takeWhile_append_dropWhile]
  rw [h]
  constructor
  · rintro (h1 | h1 | h1)
    · exact .inr (.inl h1)
    · exact .inl h1
    · exact .inr (.inr h1)
  · rintro (h1 | h1 | h1)
    · exact .inr (.inl h1)
    · exact .inl h1
    · exact .inr (.inr h1)
theorem upN_of12 : ∀ {l : List (List UInt8)}, upS l → upN l = true
  | [], _ => rfl
  | [_], _ => rfl
  | a :: b :: t, h => by
    unfold upN
    unfold upS at h
    rw [Bool.and_eq_true, decide_eq_true_eq]
    exact ⟨(List.pairwise_cons.1 h).1 b (by simp), upN_of12 (l := b :: t) (List.pairwise_cons.1 h).2⟩
theorem fit5_up12 {m : List (List UInt8)} (h : fit5 m = true) : upS m := by
  unfold fit5 at h
  rw [Bool.and_eq_true] at h
  exact upN_pairs _ h.2
theorem fit5_len12 {l : List (List UInt8)} (h : fit5 l = true) : ∀ x ∈ l, x.length = 32 := by
  unfold fit5 at h
  rw [Bool.and_eq_true, List.all_eq_true] at h
  intro x hx
  simpa using h.1 x hx
theorem addO_fit {l : List Snp} {x : Snp} (h : fit5 (namesR l) = true) : fit5 (namesR (addO l x)) = true := by
  unfold addO
  split
  · exact h
  · rename_i hc
    have hu := fit5_up12 h
    have hx : x.1 ∉ namesR l := fun hin => hc (.inl (by rw [findR_is hu]; simpa using hin))
    have h32 : x.1.length = 32 := Classical.byContradiction fun h => hc (.inr h)
    rw [names_ins hu hx]
    refine fit5_all (fun y hy => ?_) (upN_of12 (addL_up hu))
    rcases addL_mem.1 hy with rfl | hy
    · exact h32
    · exact fit5_len12 h y hy
theorem find_mem : ∀ {l : List Snp}, upS (namesR l) → ∀ y ∈ l, findR l y.1 = some y.2
  | z :: t, hu, y, hy => by
    unfold namesR upS at hu
    rw [List.map_cons, List.pairwise_cons] at hu
    unfold findR
    by_cases h : z.1 = y.1
    · rcases List.mem_cons.1 hy with rfl | hy
      · rw [List.find?_cons_of_pos (by simp)]; rfl
      · exact absurd (hu.1 y.1 (List.mem_map.2 ⟨y, hy, rfl⟩)) (by rw [h]; exact List.lt_irrefl _)
    · rcases List.mem_cons.1 hy with rfl | hy
      · exact absurd rfl h
      · have ih := find_mem (l := t) hu.2 y hy
        unfold findR at ih
        rw [List.find?_cons_of_neg (by simpa using h)]; exact ih
/-- What was added is found, and all that was there. -/
theorem addO_finds {l : List Snp} {x : Snp} (hu : upS (namesR l)) (hx : x.1 ∉ namesR l) : findR (insR l x) x.1 = some x.2 ∧ ∀ y ∈ l, findR (insR l x) y.1 = some y.2 := by
  have h := addL_up (k := x.1) hu
  rw [← names_ins hu hx] at h
  exact ⟨find_mem h x (mem_insO.2 (.inl rfl)), fun y hy => find_mem h y (mem_insO.2 (.inr hy))⟩
end Go.Proofs.YtaompdnnkfmjhaaGreatDoor

namespace Go.Proofs.YtaompdnnkfmjhaaGreatDoor

theorem kidsO_none {o : List Snp} {k : List UInt8} (h : k ∉ namesR o) : kidsO o k = [] := by
  unfold kidsO
  have hf : findR o k = none := by
    unfold findR
    rw [Option.map_eq_none_iff, List.find?_eq_none]
    intro x hx e
    exact h (List.mem_map.2 ⟨x, hx, by simpa using e⟩)
  rw [hf]
  exact kidsR_nil
theorem kidsO_nodup (o : List Snp) (k : List UInt8) : (kidsO o k).Nodup := by
  unfold kidsO kidsR
  split
  · exact up_nodup (setOf_up _)
  · exact List.nodup_nil
theorem kidsO_32 {o : List Snp} {k y : List UInt8} (h : y ∈ kidsO o k) : y.length = 32 := by
  unfold kidsO kidsR at h
  split at h
  · exact (setOf_mem.1 h).2
  · cases h
theorem kids_sum {o : List Snp} (hu : upS (namesR o)) : ((namesR o).map (fun k => (kidsO o k).length)).sum = (allK o).length := by
  unfold allK namesR
  rw [List.length_flatMap, List.map_map]
  congr 1
  refine List.map_congr_left fun x hx => ?_
  show (kidsO o x.1).length = _
  unfold kidsO
  rw [find_mem hu x hx]
  rfl
theorem leftQ_le (kids : List UInt8 → List (List UInt8)) (z : Bool) (c : List Cnt) : ∀ (U : List (List UInt8)), leftQ kids U z c ≤ (U.map (fun k => (kids k).length)).sum
  | [] => by simp [leftQ]
  | k :: U => by
    have h := leftQ_le kids z c U
    unfold leftQ at *
    rw [List.map_cons, List.sum_cons, List.map_cons, List.sum_cons]
    split <;> omega
theorem size_le {o : List Snp} (hu : upS (namesR o)) (z : Bool) (key : List UInt8) (c : List Cnt) {B : Nat} (hB : rawsL o ≤ 32 * B) : sizeQ (kidsO o) (namesR o) z ([key], c) ≤ 1 + B := by
  unfold sizeQ
  have h1 := leftQ_le (kidsO o) z c (namesR o)
  rw [kids_sum hu] at h1
  have h2 := allK_len o
  simp only [List.length_singleton]
  omega
/-- A root more, to its end. -/
theorem Counts.plus {o : List Snp} {rs : List (List UInt8)} {c c' : List Cnt} (h : Counts (kidsO o) rs c) {r : List UInt8} {n : Nat} (hi : iterQ (plusS (kidsO o)) n ([r], c) = ([], c')) : Counts (kidsO o) (rs ++ [r]) c' := by
  have h1 := iter_eq (kidsO_nodup o) n (h.start r)
  rw [hi] at h1
  exact Counts.of_end h1
end Go.Proofs.YtaompdnnkfmjhaaGreatDoor

namespace Go.Proofs.YtaompdnnkfmjhaaGreatDoor
open Go.RowKit

/-- A change of the map at one key. -/
theorem CMap.change {w' : World} {mb N : Nat} {c cn : List Cnt} {F : List UInt8 → Option Int} {k : List UInt8} {v : Int} (hF : ∀ k, (F k).getD 0 = cntC c k) (hv : ∀ k, cntC c k ≤ 1099511627776 + N) (hm : IMap w' mb (N + 1) (fun k' => if k' = k then some v else F k')) (hcn : FitCn cn) (he : ∀ k', cntC cn k' = if k' = k then v else cntC c k') (hvn : v ≤ 1099511627776 + (N + 1)) : CMap w' mb (N + 1) cn := by
  refine ⟨_, hm, fun k' => ?_, hcn, fun k' => ?_⟩
  · rw [he]
    by_cases e : k' = k
    · simp [e]
    · simp only [if_neg e]; exact hF k'
  · rw [he]
    by_cases e : k' = k
    · rw [if_pos e]; exact hvn
    · rw [if_neg e]; have := hv k'; omega

set_option maxHeartbeats 2000000 in
set_option maxRecDepth 100000 in
theorem cmore1_walk (mb N cb : Nat) (c : List Cnt) (k : List UInt8) (w : World) (hb : w.heap[cb]? = some (.cells #[.map (some mb)] 67 (0, 0))) (hm : CMap w mb N c) (hN : N ≤ 1100000) (hk : k.length ≤ maxLen) :
    Calls Tryz.prog 53 #[S k, .pointer (some ⟨cb, 0, none⟩)] w fun e w' => e = .returned (.bool (decide (cntC c k = 0))) ∧ CMap w' mb (N + 1) (chgC c k 1) ∧ w.grownBy w' (some mb) := by
  obtain ⟨F, him, hF, hfit, hval⟩ := hm
  have hvk := hval k
  have hnn := cntC_nonneg hfit k
  have hlk := him.look hk
  rw [hF] at hlk
  have hw0 : IntKind.i64.wrap (cntC c k + 1) = cntC c k + 1 := by rw [IntKind.wrap_i64]; omega
  obtain ⟨w1, hup, him1, hg1⟩ := him.update hk (by unfold maxLen; omega) (c := cntC c k + 1) (by simp [Lit.wf, IntKind.min, IntKind.max, IntKind.bits, IntKind.signed]; omega)
  have hlk1 := him1.look hk
  simp only [if_true, Option.getD_some] at hlk1
  obtain ⟨hc1, hc2⟩ := chg_plus hfit k
  have HCM := Lib.hid (show CMap w1 mb (N + 1) (chgC c k 1) from CMap.change hF hval him1 hc1 (fun k' => by rw [hc2]) (by omega))
  have c0 := heap_cell hb (j := 0) (v := .map (some mb)) rfl
  have hne : cb ≠ mb := by
    rintro rfl
    obtain ⟨D, ⟨es, clock, h1, _⟩, _⟩ := him
    rw [h1] at hb; cases hb
  have c1 := heap_cell ((hg1.block cb (heap_lt hb) (fun e => hne (Option.some.inj e))).trans hb) (j := 0) (v := .map (some mb)) rfl
  have HG1 := Lib.hid hg1
  have hdec : (cntC c k + 1 == 1) = decide (cntC c k = 0) := by
    by_cases h : cntC c k = 0
    · rw [h]; rfl
    · rw [decide_eq_false h, beq_eq_false_iff_ne]; omega
  have HDEC := Lib.hid (show decide (cntC c k + 1 = 1) = decide (cntC c k = 0) by
    by_cases h : cntC c k = 0
    · rw [h]; rfl
    · rw [decide_eq_false h, decide_eq_false]; omega)
  clear hb him him1 hg1 hF hval hc1 hc2 hfit hvk hnn
  generalize cntC c k = v at *
  go_enter Tryz.func53, Tryz.ntmps53
  go_wp2
  go_ret
  exact ⟨rfl, HCM.out, HG1.out⟩

/-! The steps of a queue, as the two closures make them. -/
theorem plus_stepF {kids : List UInt8 → List (List UInt8)} {U : List (List UInt8)} (hU : U.Nodup) (hk : ∀ k, k ∉ U → kids k = []) : StepF kids (plusS kids) (fun c k => decide (cntC c k = 0)) (fun c k => chgC c k 1) (sizeQ kids U true) := by
  refine ⟨fun k qs c => ?_, fun k qs c hc => ?_, fun s => by unfold sizeQ; omega⟩
  · unfold plusS
    by_cases h : cntC c k = 0
    · simp [h]
    · simp [h]
  · have := plusS_size (c := c) hU hk (k := k) (qs := qs) hc; omega
def updM (c : List Cnt) (k : List UInt8) : List Cnt := if cntC c k = 0 then c else chgC c k (-1)
def flagM (c : List Cnt) (k : List UInt8) : Bool := if cntC c k = 0 then false else decide (cntC c k - 1 = 0)
theorem minusS_size {kids : List UInt8 → List (List UInt8)} {U : List (List UInt8)} (hU : U.Nodup) (hk : ∀ k, k ∉ U → kids k = []) {k : List UInt8} {qs : List (List UInt8)} {c : List Cnt} (hc : FitCn c) :
    sizeQ kids U false (qs ++ (if flagM c k = true then kids k else []), updM c k) + 1 = sizeQ kids U false (k :: qs, c) := by
  unfold sizeQ flagM updM
  simp only
  by_cases h0 : cntC c k = 0
  · rw [if_pos h0, if_pos h0]
    simp
    omega
  · rw [if_neg h0, if_neg h0]
    have hch := (chg_minus hc h0).2
    by_cases h1 : cntC c k - 1 = 0
    · rw [decide_eq_true h1, if_pos rfl]
      by_cases hkU : k ∈ U
      · have hl := leftQ_less (kids := kids) (z := false) (c := c) (c' := chgC c k (-1)) hU hkU (by rw [beq_eq_false_iff_ne]; exact h0) (by rw [hch, if_pos rfl, h1]; rfl) (fun k' _ hne => by rw [hch, if_neg hne])
        rw [hl, List.length_append, List.length_cons]; omega
      · rw [hk k hkU, List.append_nil, List.length_cons, leftQ_same (c := chgC c k (-1)) (c' := c) (fun k' hk' => by
          have hne : k' ≠ k := by rintro rfl; exact hkU hk'
          rw [hch, if_neg hne])]
        omega
    · rw [decide_eq_false h1, if_neg (by simp), List.append_nil, List.length_cons, leftQ_same (c := chgC c k (-1)) (c' := c) (fun k' hk' => by
        rw [hch]
        by_cases e : k' = k
        · subst e
          rw [if_pos rfl, beq_eq_false_iff_ne.2 h1, beq_eq_false_iff_ne.2 h0]
        · rw [if_neg e])]
      omega
/-- The program's step of a root less; it is the document's. -/
def stepM (kids : List UInt8 → List (List UInt8)) : QC → QC
  | ([], c) => ([], c)
  | (k :: qs, c) => (qs ++ (if flagM c k = true then kids k else []), updM c k)
theorem stepM_eq {kids : List UInt8 → List (List UInt8)} {s : QC} (hc : FitCn s.2) : stepM kids s = minusS kids s := by
  obtain ⟨q, c⟩ := s
  cases q with
  | nil => rfl
  | cons k qs =>
    unfold stepM minusS flagM updM
    simp only
    by_cases h0 : cntC c k = 0
    · simp [h0]
    · have hch := (chg_minus hc h0).2 k
      rw [if_neg h0, if_neg h0, if_neg h0, hch, if_pos rfl]
      by_cases h1 : cntC c k - 1 = 0
      · simp [h1]
      · simp [h1]
theorem minus_fit {kids : List UInt8 → List (List UInt8)} {s : QC} (hc : FitCn s.2) : FitCn (minusS kids s).2 := by
  obtain ⟨q, c⟩ := s
  cases q with
  | nil => exact hc
  | cons k qs =>
    unfold minusS
    simp only
    split
    · exact hc
    · rename_i h; exact (chg_minus hc h).1
theorem stepM_iter {kids : List UInt8 → List (List UInt8)} : ∀ (n : Nat) {s : QC}, FitCn s.2 → iterQ (stepM kids) n s = iterQ (minusS kids) n s
  | 0, _, _ => rfl
  | n + 1, s, hc => by
    show iterQ (stepM kids) n (stepM kids s) = iterQ (minusS kids) n (minusS kids s)
    rw [stepM_eq hc]
    exact stepM_iter n (minus_fit hc)
theorem stepM_stepF {kids : List UInt8 → List (List UInt8)} {U : List (List UInt8)} (hU : U.Nodup) (hk : ∀ k, k ∉ U → kids k = []) : StepF kids (stepM kids) flagM updM (sizeQ kids U false) :=
  ⟨fun _ _ _ => rfl, fun k qs c hc => by have := minusS_size (c := c) hU hk (k := k) (qs := qs) hc; show sizeQ kids U false (qs ++ (if flagM c k = true then kids k else []), updM c k) + 1 ≤ _; omega, fun s => by unfold sizeQ; omega⟩

set_option maxHeartbeats 2000000 in
set_option maxRecDepth 100000 in
theorem cminus1_walk (mb N cb : Nat) (c : List Cnt) (k : List UInt8) (w : World) (hb : w.heap[cb]? = some (.cells #[.map (some mb)] 67 (0, 0))) (hm : CMap w mb N c) (hN : N ≤ 1100000) (hk : k.length ≤ maxLen) :
    Calls Tryz.prog 44 #[S k, .pointer (some ⟨cb, 0, none⟩)] w fun e w' => e = .returned (.bool (flagM c k)) ∧ CMap w' mb (N + 1) (updM c k) ∧ w.grownBy w' (some mb) := by
  have HM0 := Lib.hid (hm.mono (Nat.le_succ N))
  obtain ⟨F, him, hF, hfit, hval⟩ := hm
  have hvk := hval k
  have hnn := cntC_nonneg hfit k
  have hlk := him.look hk
  rw [hF] at hlk
  have c0 := heap_cell hb (j := 0) (v := .map (some mb)) rfl
  have hne : cb ≠ mb := by
    rintro rfl
    obtain ⟨D, ⟨es, clock, h1, _⟩, _⟩ := him
    rw [h1] at hb; cases hb
  by_cases h0 : cntC c k = 0
  · rw [show flagM c k = false by unfold flagM; rw [if_pos h0], show updM c k = c by unfold updM; rw [if_pos h0]]
    rw [h0] at hlk
    clear hb him hF hval hfit hvk hnn h0
    go_enter Tryz.func44, Tryz.ntmps44
    go_wp2
    go_ret
    exact ⟨rfl, HM0.out, grown_of_below (Below.refl _ _) _⟩
  have hw0 : IntKind.i64.wrap (cntC c k - 1) = cntC c k - 1 := by rw [IntKind.wrap_i64]; omega
  obtain ⟨w1, hup, him1, hg1⟩ := him.update hk (by unfold maxLen; omega) (c := cntC c k - 1) (by simp [Lit.wf, IntKind.min, IntKind.max, IntKind.bits, IntKind.signed]; omega)
  have hlk1 := him1.look hk
  simp only [if_true, Option.getD_some] at hlk1
  obtain ⟨hc1, hc2⟩ := chg_minus hfit h0
  have HCM := Lib.hid (show CMap w1 mb (N + 1) (updM c k) from by
    unfold updM
    rw [if_neg h0]
    exact CMap.change hF hval him1 hc1 (fun k' => by rw [hc2]) (by omega))
  have c1 := heap_cell ((hg1.block cb (heap_lt hb) (fun e => hne (Option.some.inj e))).trans hb) (j := 0) (v := .map (some mb)) rfl
  have HG1 := Lib.hid hg1
  rw [show flagM c k = decide (cntC c k - 1 = 0) by unfold flagM; rw [if_neg h0]]
  have h0b : (cntC c k == 0) = false := by rw [beq_eq_false_iff_ne]; exact h0
  clear hb him him1 hg1 hF hval hc1 hc2 hfit hvk hnn
  generalize cntC c k = v at *
  go_enter Tryz.func44, Tryz.ntmps44
  go_wp2
  go_ret
  exact ⟨rfl, HCM.out, HG1.out⟩

set_option maxHeartbeats 2000000 in
set_option maxRecDepth 100000 in
/-- A root more. -/
theorem cmore_walk (mb N M gN : Nat) (capsN : Array Value) (kids : List UInt8 → List (List UInt8)) (U : List (List UInt8)) (hU : U.Nodup) (hk : ∀ k, k ∉ U → kids k = []) (key : List UInt8) (c : List Cnt) (w : World)
    (henN : ∀ args w, (callFunc gN args).run Tryz.prog w = .ok (.enter gN args) w) (hm : CMap w mb N c) (hM : sizeQ kids U true ([key], c) ≤ M) (hM2 : N + M ≤ 1000000) (hkl : key.length ≤ maxLen) (hkk : ∀ k, ∀ y ∈ kids k, y.length ≤ maxLen)
    (hN : ∀ k w', w.grownBy w' (some mb) → Calls Tryz.prog gN (#[S k] ++ capsN) w' fun e w'' => ∃ v, e = .returned v ∧ StrRow w'' v (kids k) ∧ Below w'.heap.size w' w'') :
    Calls Tryz.prog 30 #[.map (some mb), S key, .func (.func gN) #[] capsN] w fun e w' => e = .returned (.tuple #[]) ∧ ∃ n c', iterQ (plusS kids) n ([key], c) = ([], c') ∧ CMap w' mb (N + M) c' ∧ w.grownBy w' (some mb) := by
  obtain ⟨w1, hw1, HB1, hz⟩ : ∃ w1, w1 = w.alloc (.cells #[.map (some mb)] 67) ∧ Hid (Below w.heap.size w w1) ∧ w1.heap[w.heap.size]? = some (.cells #[.map (some mb)] 67 (0, 0)) :=
    ⟨_, rfl, Lib.hid ((Below.refl _ _).alloc (Nat.le_refl _) _), heap_alloc_new _ _⟩
  have hne : w.heap.size ≠ mb := by have := hm.lt; omega
  have HG1 := Lib.hid (grown_of_below HB1.out (some mb))
  have CS := spread_walk mb N M gN 53 capsN #[.pointer (some ⟨w.heap.size, 0, none⟩)] kids (plusS kids) _ _ _ (plus_stepF hU hk) key c w1 henN (fun args w => by first | rfl | kernel_rfl) (hm.kept HB1.out) hM (by omega) hkl hkk
    (fun k w' hg => hN k w' (World.grownBy.trans HG1.out hg))
    (fun k c' n w' hg hcm hn hkl => cmore1_walk mb (N + n) w.heap.size c' k w' ((hg.block _ (heap_lt hz) (fun e => hne (Option.some.inj e))).trans hz) hcm (by omega) hkl)
  have c0 := heap_cell hz (j := 0) (v := .map (some mb)) rfl
  clear hm hN hz
  go_enter Tryz.func30, Tryz.ntmps30
  go_upto_region 1 with fail
  rw [← hw1]
  clear hw1
  go_wp2_with fail
  refine CS.mono ?_
  rintro e w2 ⟨rfl, n, c', hit, hcm, hg⟩
  have HG2 := Lib.hid (World.grownBy.trans HG1.out hg)
  have HCM := Lib.hid hcm
  have HIT := Lib.hid hit
  clear CS hit hcm hg c0
  go_wp2
  go_end0
  exact ⟨rfl, n, c', HIT.out, HCM.out, HG2.out⟩
end Go.Proofs.YtaompdnnkfmjhaaGreatDoor

namespace Go.Proofs.YtaompdnnkfmjhaaGreatDoor
open Go.RowKit

/-- What an iterator may turn between two rounds: blocks from N on that are not the rounds'. -/
def Stays2 {β : Type} (Ow : World → Nat → Prop) (N : Nat) (J : β → World → Prop) : Prop :=
  ∀ s A B row, J s A → A.grownBy B row → (∀ r, row = some r → N ≤ r ∧ Ow A r) → J s B
/-- What a caller's invariant must bear. -/
def Bides2 {β : Type} (Ow : World → Nat → Prop) (N : Nat) (J : β → World → Prop) : Prop :=
  ∀ s A B row, J s A → A.grownBy B row → (∀ r, row = some r → N ≤ r ∧ (Ow A r ∨ ∃ o : Obj, A.heap[r]? = some o ∧ o.isCells = false)) → J s B
/-- The contract of an iterator that hands out xs, one by one, till a round says no. -/
def IterOf2 {α : Type} (P : Program) (g : Nat) (lb : Array Value) (Ow : World → Nat → Prop) (Kp : World → World → Prop) (encs : α → Array Value) (xs : List α) (w : World) : Prop :=
  ∀ (l : Nat) (J Jx : List α → World → Prop) (W : World), Kp w W → w.heap.size + 2 ≤ W.heap.size → Stays2 Ow W.heap.size J → Stays2 Ow W.heap.size Jx →
    (∀ pre x W1, J pre W1 → pre ++ [x] <+: xs → YieldAt Fence.wide 2 P l (encs x) W1 fun e W' =>
      (e = .returned (.bool true) ∧ J (pre ++ [x]) W' ∧ Kp W1 W') ∨ (e = .returned (.bool false) ∧ Jx (pre ++ [x]) W')) →
    J [] W →
    Calls P g (#[.func (.yield l) #[] #[]] ++ lb) W fun e W' => (∃ v, e = .returned v) ∧ (J xs W' ∨ ∃ pre, pre <+: xs ∧ Jx pre W')

theorem Bides2.put {β : Type} {Ow : World → Nat → Prop} {N : Nat} {J : β → World → Prop} (h : Bides2 Ow N J) {s : β} {W : World} {l : Nat} {o : Obj} (o' : Obj) (hs : J s W) (hN : N ≤ l) (hl : W.heap[l]? = some o) (ho : o.isCells = false) : J s (W.putObj l o') :=
  h s W _ (some l) hs (grownBy_putObj' W l o') (fun r e => by cases e; exact ⟨hN, .inr ⟨o, hl, ho⟩⟩)
theorem Bides2.new {β : Type} {Ow : World → Nat → Prop} {N : Nat} {J : β → World → Prop} (h : Bides2 Ow N J) {s : β} {W : World} (o : Obj) (hs : J s W) : J s (W.alloc o) :=
  h s W _ none hs (World.grownBy_alloc W o none) (fun r e => by cases e)

section
variable {P : Program}

/-- The law, at a loop that stands in no other loop's round. -/
theorem range_law2 {α : Type} {g : Operand} {ps : Array Tmp} {assign body : Code} {Q : Exit → Act → World → Prop} {a : Act} {w : World}
    {gf : Nat} {lb : Array Value} (hg : a.eval g = .func (.func gf) #[] lb) (eg : ∀ args w, (callFunc gf args).run P w = .ok (.enter gf args) w)
    {Ow : World → Nat → Prop} {Kp : World → World → Prop} {encs : α → Array Value} {xs : List α} (hseq : IterOf2 P gf lb Ow Kp encs xs w)
    (hKt : ∀ {A B C : World}, Kp A B → Kp B C → Kp A C) (hKb : ∀ (W : World) (o : Obj), Kp W (W.putObj (w.heap.size + 1) o)) (hKa : ∀ o o', Kp w ((w.alloc o).alloc o')) (hps : ∀ x, (encs x).size = ps.size)
    (I : List α → World → Prop) (Ix : Code → List α → World → Prop) (hI : Bides2 Ow w.heap.size I) (hIx : ∀ c, Bides2 Ow w.heap.size (Ix c)) (h0 : I [] w)
    (Ax : α → Act → World → Prop) (hAx : ∀ x a', Bides2 Ow w.heap.size (fun (_ : Unit) W => Ax x a' W))
    (hassign : ∀ (l : Nat) (pre : List α) (x : α) (W : World) (K : Act → World → Prop), I pre W → (∀ a' W', KeepsFrom w.heap.size W W' → Kp W W' → I pre W' → Ax x a' W' → K a' W') →
      assign.wpIn (Fence.wide.inRound l) 2 P (Exit.then K (fun _ _ _ => False)) { tmps := (ps.zip (encs x)).foldl (fun t (p, v) => t.setIfInBounds p v) a.tmps, defers := [] } W)
    (hbody : ∀ (l : Nat) (pre : List α) (x : α) (a' : Act) (W : World), w.heap.size ≤ l → (∃ r, W.heap[l]? = some (.loop r)) → I pre W → Ax x a' W → pre ++ [x] <+: xs →
      body.wpIn (Fence.wide.inRound l) 2 P (ownPostG w.heap.size Kp I Ix (pre ++ [x]) W) a' W)
    (hdone : ∀ (D : Nat) (W : World), w.heap.size ≤ D → I xs W → W.heap[D]? = some (.deferred (some [])) → Q .normal { a with defers := { target := .collected D, args := #[] } :: a.defers } W)
    (hstop : ∀ (D : Nat) (c : Code) (pre : List α) (W : World), w.heap.size ≤ D → pre <+: xs → Ix c pre W → W.heap[D]? = some (.deferred (some [])) → c.wpIn Fence.wide 3 P Q { a with defers := { target := .collected D, args := #[] } :: a.defers } W) :
    (Code.rangeFunc g ps assign body).wpIn Fence.wide 3 P Q a w := by
  refine wpIn_rangeFunc ?_
  intro fn hfn
  have hro : Fence.wide.round = none := rfl
  rw [hro]
  obtain ⟨rec, hrec⟩ : ∃ rec : LoopState → Option Code → Loop, rec = fun st pe => { state := st, pending := pe, fn, tmps := a.tmps, params := ps, assign, body, defers := w.heap.size } := ⟨_, rfl⟩
  obtain ⟨W1, hW1⟩ : ∃ W1, (w.alloc (.deferred (some []))).alloc (.loop (rec .ready none)) = W1 := ⟨_, rfl⟩
  have hL1 : W1.heap[w.heap.size + 1]? = some (.loop (rec .ready none)) := by
    rw [← hW1]; have := World.alloc_heap_new (w.alloc (.deferred (some []))) (.loop (rec .ready none)); rwa [World.size_alloc] at this
  have hK1 : W1.heap[w.heap.size]? = some (.deferred (some [])) := by
    rw [← hW1]; exact (Below.heap_alloc _ _ _ (by simp)).trans (World.alloc_heap_new w _)
  have hI1 : I [] W1 := by rw [← hW1]; exact hI.new _ (hI.new _ h0)
  have hKp1 : Kp w W1 := by rw [← hW1]; exact hKa _ _
  have hsz1 : W1.heap.size = w.heap.size + 2 := by rw [← hW1]; simp
  refine ⟨w.heap.size + 1, [{ target := .collected w.heap.size, args := #[] }], W1, { target := .fn (.func gf) lb, args := #[.func (.yield (w.heap.size + 1)) #[] #[]] }, W1, gf,
    #[.func (.yield (w.heap.size + 1)) #[] #[]] ++ lb, W1, ?_, ?_, ?_, ?_, (fun _ => by omega), ?_⟩
  · rw [← hW1, hrec]; exact run_enterLoop_outer _ _ _ _ _
  · simp only [resolve, hg]
    simp [go_sem]
  · intro f' _; trivial
  · simp [invoke, go_sem, eg]
  · -- THE BOOK-KEEPING: no step of the iterator's turns the record or the block for deferred calls
    have hne : ∀ {A : World} {row : Option Nat} {k : Nat} {o : Obj}, (∀ r, row = some r → W1.heap.size ≤ r ∧ Ow A r) → w.heap.size ≤ k → k < W1.heap.size → A.heap[k]? = some o → some k ≠ row := by
      intro A row k o hr hk1 hk2 _ e
      have := (hr k e.symm).1
      omega
    have hcells : ∀ {A : World} {row : Option Nat}, (∀ r, row = some r → W1.heap.size ≤ r ∧ Ow A r) → (∀ r, row = some r → w.heap.size ≤ r ∧ (Ow A r ∨ ∃ o : Obj, A.heap[r]? = some o ∧ o.isCells = false)) := by
      intro A row hr r e
      exact ⟨by have := (hr r e).1; omega, .inl (hr r e).2⟩
    have hkeep : ∀ {A B : World} {row : Option Nat} {k : Nat} {o : Obj}, A.grownBy B row → some k ≠ row → A.heap[k]? = some o → B.heap[k]? = some o := by
      intro A B row k o hgr hn hk
      exact (hgr.block k (Array.getElem?_eq_some_iff.1 hk).1 hn).trans hk
    refine callsIn_wide.2 ((hseq (w.heap.size + 1)
      (fun pre W => I pre W ∧ W.heap[w.heap.size + 1]? = some (.loop (rec .ready none)) ∧ W.heap[w.heap.size]? = some (.deferred (some [])))
      (fun pre W => ∃ c, Ix c pre W ∧ W.heap[w.heap.size + 1]? = some (.loop (rec .done (some c))) ∧ W.heap[w.heap.size]? = some (.deferred (some [])))
      W1 hKp1 (by omega)
      (fun s A B row hs hg' hr => ⟨hI s A B row hs.1 hg' (hcells hr), hkeep hg' (hne hr (by omega) (by omega) hs.2.1) hs.2.1, hkeep hg' (hne hr (by omega) (by omega) hs.2.2) hs.2.2⟩)
      (fun s A B row hs hg' hr => by
        obtain ⟨c, hc, hl, hk⟩ := hs
        exact ⟨c, hIx c s A B row hc hg' (hcells hr), hkeep hg' (hne hr (by omega) (by omega) hl) hl, hkeep hg' (hne hr (by omega) (by omega) hk) hk⟩)
      ?_ ⟨hI1, hL1, hK1⟩).mono ?_)
    · -- ONE ROUND
      rintro pre x W ⟨hi, hl, hk⟩ hpx
      have hy := run_yield (P := P) (args := encs x) hl (by rw [hrec]; exact hps x)
      rw [hrec] at hy
      refine ⟨fn, _, assign, body, hy, roundIn_of_wpIn hfn (hassign _ pre x W _ hi ?_)⟩
      clear hy
      intro a' Wa hkfa hkpa hia hax
      have hla := hkfa.same _ _ (by omega) hl rfl
      have hka := hkfa.same _ _ (Nat.le_refl _) hk rfl
      have hlta : w.heap.size + 1 < Wa.heap.size := (Array.getElem?_eq_some_iff.1 hla).1
      refine ⟨_, run_beginRound hla (by rw [hrec]), ?_⟩
      have hl2 : (Wa.putObj (w.heap.size + 1) (.loop { rec .ready none with state := .busy })).heap[w.heap.size + 1]? = some (.loop { rec .ready none with state := .busy }) := World.putObj_heap_same hlta
      have hk2 : (Wa.putObj (w.heap.size + 1) (.loop { rec .ready none with state := .busy })).heap[w.heap.size]? = some (.deferred (some [])) := (World.putObj_heap_other (by omega)).trans hka
      have hw2 : Kp Wa (Wa.putObj (w.heap.size + 1) (.loop { rec .ready none with state := .busy })) := hKb _ _
      refine wpIn_mono (hbody _ pre x a' _ (by omega) ⟨_, hl2⟩ (hI.put _ hia (by omega) hla rfl) ((hAx x a').put (s := ()) _ hax (by omega) hla rfl) hpx) ?_
      have fin : ∀ (jump : Option Code) (W3 : World), KeepsFrom w.heap.size (Wa.putObj (w.heap.size + 1) (.loop { rec .ready none with state := .busy })) W3 →
          (Instr.endRound (w.heap.size + 1) jump).run P W3 = .ok (.bool jump.isNone) (W3.putObj (w.heap.size + 1) (.loop (rec (if jump.isNone then .ready else .done) jump))) ∧
          W3.heap[w.heap.size + 1]? = some (.loop { rec .ready none with state := .busy }) ∧
          (W3.putObj (w.heap.size + 1) (.loop (rec (if jump.isNone then .ready else .done) jump))).heap[w.heap.size + 1]? = some (.loop (rec (if jump.isNone then .ready else .done) jump)) ∧
          (W3.putObj (w.heap.size + 1) (.loop (rec (if jump.isNone then .ready else .done) jump))).heap[w.heap.size]? = some (.deferred (some [])) := fun jump W3 hk3 => by
        have hl3 := hk3.same _ _ (by omega) hl2 rfl
        have := run_endRound (P := P) jump hl3
        rw [hrec] at this ⊢
        exact ⟨this, by rw [hrec] at hl3; exact hl3, World.putObj_heap_same (Array.getElem?_eq_some_iff.1 hl3).1, (World.putObj_heap_other (by omega)).trans (hk3.same _ _ (Nat.le_refl _) hk2 rfl)⟩
      rintro e a3 W3 hp
      cases e with
      | normal =>
        obtain ⟨hk3, hkp3, hi3⟩ := hp
        obtain ⟨hr, hl3, hl4, hk4⟩ := fin none W3 hk3
        exact ⟨_, _, hr, .inl ⟨rfl, ⟨hI.put _ hi3 (by omega) hl3 rfl, hl4, hk4⟩, hKt hkpa (hKt (hKt hw2 hkp3) (hKb _ _))⟩⟩
      | ret =>
        obtain ⟨hk3, hi3⟩ := hp
        obtain ⟨hr, hl3, hl4, hk4⟩ := fin (some .ret) W3 hk3
        exact ⟨_, _, hr, .inr ⟨rfl, .ret, (hIx _).put _ hi3 (by omega) hl3 rfl, hl4, hk4⟩⟩
      | exit id =>
        obtain ⟨hk3, hi3⟩ := hp
        obtain ⟨hr, hl3, hl4, hk4⟩ := fin (some (.exit id)) W3 hk3
        exact ⟨_, _, hr, .inr ⟨rfl, .exit id, (hIx _).put _ hi3 (by omega) hl3 rfl, hl4, hk4⟩⟩
      | goto t =>
        obtain ⟨hk3, hi3⟩ := hp
        obtain ⟨hr, hl3, hl4, hk4⟩ := fin (some (.goto t)) W3 hk3
        exact ⟨_, _, hr, .inr ⟨rfl, .goto t, (hIx _).put _ hi3 (by omega) hl3 rfl, hl4, hk4⟩⟩
      | panic ch => exact hp.elim
      | outgrown => exact hp.elim
    · -- BEHIND THE ITERATOR
      rintro e W2 ⟨⟨v, rfl⟩, (⟨hi, hl, hk⟩ | ⟨pre, hpre, c, hi, hl, hk⟩)⟩
      · exact ⟨none, _, by have := run_endLoop (P := P) hl (by rw [hrec]; simp); rw [hrec] at this; exact this, hdone _ _ (Nat.le_refl _) (hI.put _ hi (by omega) hl rfl) ((World.putObj_heap_other (by omega)).trans hk)⟩
      · exact ⟨some c, _, by have := run_endLoop (P := P) hl (by rw [hrec]; simp); rw [hrec] at this; exact this, hstop _ c pre _ (Nat.le_refl _) hpre ((hIx c).put _ hi (by omega) hl rfl) ((World.putObj_heap_other (by omega)).trans hk)⟩
end
end Go.Proofs.YtaompdnnkfmjhaaGreatDoor
