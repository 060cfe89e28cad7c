/- What is reached from keys on: plain. What is reached, in the order in which a queue comes to it. What is reached, as a call hands it back. -/
import Derived.Test.YtocommjoncchpaaGreatDoorJNodeBack
import Derived.Test.YtocommjoncchpaaGreatDoorJKeysAdd
import Derived.Test.YtocommjoncchpaaGreatDoorJRowG
import Derived.Test.YtocommjoncchpaaGreatDoorJPlain
namespace Go.Proofs.YtocommjoncchpaaGreatDoor

/-- The keys that bytes name. -/
noncomputable def kidsR (raw : List UInt8) : List (List UInt8) := if (readN raw).2 = 0 then kidsN (readN raw).1 else []
noncomputable def kidsO (o : List Snp) (k : List UInt8) : List (List UInt8) := kidsR (rootOf (findR o k))
/-- What is in each set that has the first ones and is closed. -/
def Reached (o : List Snp) (P : List UInt8 → Prop) (x : List UInt8) : Prop :=
  ∀ Q : List UInt8 → Prop, (∀ k, P k → Q k) → (∀ k y, Q k → y ∈ kidsO o k → Q y) → Q x
theorem Reached.seed {o : List Snp} {P : List UInt8 → Prop} {k : List UInt8} (h : P k) : Reached o P k := fun _ h1 _ => h1 k h
theorem Reached.next {o : List Snp} {P : List UInt8 → Prop} {k y : List UInt8} (h : Reached o P k) (hy : y ∈ kidsO o k) : Reached o P y := fun Q h1 h2 => h2 k y (h Q h1 h2) hy
theorem Reached.imp {o : List Snp} {P P' : List UInt8 → Prop} {x : List UInt8} (h : Reached o P x) (hp : ∀ k, P k → P' k) : Reached o P' x := fun Q h1 h2 => h Q (fun k hk => h1 k (hp k hk)) h2
theorem kidsN_32 {n : Nod} {x : List UInt8} (h : x ∈ kidsN n) : x.length = 32 := (setOf_mem.1 h).2
theorem kidsR_32 {raw x : List UInt8} (h : x ∈ kidsR raw) : x.length = 32 := by
  unfold kidsR at h
  split at h
  · exact kidsN_32 h
  · cases h
theorem kidsR_ok {raw : List UInt8} (h : (readN raw).2 = 0) : kidsR raw = kidsN (readN raw).1 := if_pos h
theorem kidsR_bad {raw : List UInt8} (h : (readN raw).2 ≠ 0) : kidsR raw = [] := if_neg h
theorem read_nil : (readN []).2 ≠ 0 := by simp [readN, parseN]
theorem kidsR_nil : kidsR [] = [] := kidsR_bad read_nil

/-! How many there are. -/
theorem flatB_len {α : Type} (f : α → List UInt8) (n : Nat) : ∀ (l : List α), (∀ x ∈ l, n ≤ (f x).length) → n * l.length ≤ (l.flatMap f).length
  | [], _ => by simp
  | x :: l, h => by
    have h1 := flatB_len f n l (fun y hy => h y (List.mem_cons_of_mem _ hy))
    have h2 := h x (by simp)
    rw [List.flatMap_cons, List.length_append, List.length_cons, Nat.mul_succ]
    omega
theorem write_len {n : Nod} (hf : FitN n) : 32 * (n.parts.length + n.ents.length) ≤ (writeN n).length := by
  have hw : writeN n = UInt8.ofNat n.kind.toNat :: bodyN n := if_pos (fitN_iff.2 hf)
  rw [hw, List.length_cons]
  rcases hf with ⟨h1, h2, h3, h4, h5⟩ | ⟨h1, h2, h3, h4⟩ | ⟨h1, h2, h3, h4⟩
  · rw [h4, h5]; simp
  · have hb : bodyN n = putV n.parts.length ++ n.parts.flatMap partW := by unfold bodyN; rw [if_neg (by omega), if_pos h1]
    have := flatB_len partW 32 n.parts (fun p hp => by
      have := h4.ok p hp
      unfold partOk at this
      rw [Bool.and_eq_true] at this
      have h5 := of_decide_eq_true (p := p.1.length = 32) (by simpa using this.1)
      unfold partW
      rw [List.length_append]; omega)
    rw [hb, h3, List.length_append]; simp only [List.length_nil]; omega
  · have hb : bodyN n = putV n.ents.length ++ n.ents.flatMap entW := by unfold bodyN; rw [if_neg (by omega), if_neg (by omega)]
    have := flatB_len entW 32 n.ents (fun p hp => by
      have h5 := (entOk_parts (h4.ok p hp)).2.1
      unfold entW
      rw [List.length_append]; omega)
    rw [hb, h3, List.length_append]; simp only [List.length_nil]; omega
theorem kidsR_len (raw : List UInt8) : 32 * (kidsR raw).length ≤ raw.length := by
  unfold kidsR
  split
  · rename_i h
    obtain ⟨h1, h2⟩ := read_ok (s := raw) (n := (readN raw).1) (by rw [← h])
    have h3 := write_len h1
    rw [h2] at h3
    have := kidsN_len (readN raw).1
    omega
  · simp
theorem kidsR_1084 (raw : List UInt8) : (kidsR raw).length ≤ 1084 := by
  unfold kidsR
  split
  · exact kids_bound (by assumption)
  · simp
/-- All keys that objects name. -/
noncomputable def allK (o : List Snp) : List (List UInt8) := o.flatMap (fun x => kidsR x.2)
theorem allK_len : ∀ (o : List Snp), 32 * (allK o).length ≤ rawsL o
  | [] => by simp [allK, rawsL]
  | x :: o => by
    have h1 := allK_len o
    have h2 := kidsR_len x.2
    unfold allK rawsL at *
    rw [List.flatMap_cons, List.length_append, List.map_cons, List.sum_cons]
    omega
theorem kidsO_mem {o : List Snp} {k x : List UInt8} (h : x ∈ kidsO o k) : x ∈ allK o := by
  unfold kidsO at h
  cases hf : findR o k with
  | none => rw [hf] at h; simp only [rootOf] at h; rw [kidsR_nil] at h; cases h
  | some r =>
    rw [hf] at h
    simp only [rootOf] at h
    unfold findR at hf
    rw [Option.map_eq_some_iff] at hf
    obtain ⟨y, hy, rfl⟩ := hf
    exact List.mem_flatMap.2 ⟨y, List.mem_of_find?_eq_some hy, h⟩
theorem Reached.mem {o : List Snp} {P : List UInt8 → Prop} {x : List UInt8} (h : Reached o P x) : P x ∨ x ∈ allK o :=
  h (fun x => P x ∨ x ∈ allK o) (fun _ h => .inl h) (fun _ _ _ hy => .inr (kidsO_mem hy))
theorem Reached.len {o : List Snp} {P : List UInt8 → Prop} {x : List UInt8} (h : Reached o P x) (hP : ∀ k, P k → k.length = 32) : x.length = 32 :=
  h (fun x => x.length = 32) hP (fun _ _ _ hy => kidsR_32 hy)
theorem nodup_len {α : Type} [DecidableEq α] : ∀ (a b : List α), a.Nodup → (∀ x ∈ a, x ∈ b) → a.length ≤ b.length
  | [], _, _, _ => Nat.zero_le _
  | x :: a, b, hn, h => by
    rw [List.nodup_cons] at hn
    have hx := h x (by simp)
    have h1 := nodup_len a (b.erase x) hn.2 (fun y hy => (List.mem_erase_of_ne (by rintro rfl; exact hn.1 hy)).2 (h y (List.mem_cons_of_mem _ hy)))
    rw [List.length_erase_of_mem hx] at h1
    have := List.length_pos_of_mem hx
    rw [List.length_cons]; omega
theorem up_nodup {l : List (List UInt8)} (h : upS l) : l.Nodup := by
  unfold upS at h
  exact h.imp fun {a b} (hab : a < b) e => by subst e; exact List.lt_irrefl _ hab

def seedP (l : List (List UInt8)) (x : List UInt8) : Prop := x ∈ l ∧ x.length = 32
theorem GInv.nodup_few {o : List Snp} {P : List UInt8 → Prop} {q : List (List UInt8)} {l : List (List UInt8)} (hP : ∀ x, P x → x ∈ l) (hn : q.Nodup) (h : ∀ x ∈ q, Reached o P x) : 32 * q.length ≤ 32 * l.length + rawsL o := by
  have h1 := nodup_len q (l ++ allK o) hn (fun x hx => by
    rcases (h x hx).mem with h2 | h2
    · exact List.mem_append.2 (.inl (hP x h2))
    · exact List.mem_append.2 (.inr h2))
  have h2 := allK_len o
  rw [List.length_append] at h1
  omega

/-! A list that goes on by what it names (the reference). -/
def pushQ (q l : List (List UInt8)) : List (List UInt8) := l.foldl (fun q k => if k ∈ q then q else q ++ [k]) q
theorem pushQ_step {q l : List (List UInt8)} {j : Nat} (h : j < l.length) : pushQ q (l.take (j + 1)) = if l[j] ∈ pushQ q (l.take j) then pushQ q (l.take j) else pushQ q (l.take j) ++ [l[j]] := by
  unfold pushQ
  rw [List.take_succ_eq_append_getElem h, List.foldl_append]; rfl
theorem pushQ_all : ∀ (l q : List (List UInt8)), (∀ x, x ∈ pushQ q l ↔ x ∈ q ∨ x ∈ l) ∧ (q.Nodup → (pushQ q l).Nodup) ∧ q <+: pushQ q l
  | [], q => ⟨fun x => by simp [pushQ], fun h => h, List.prefix_refl _⟩
  | k :: l, q => by
    have e : pushQ q (k :: l) = pushQ (if k ∈ q then q else q ++ [k]) l := rfl
    rw [e]
    by_cases h : k ∈ q
    · rw [if_pos h]
      obtain ⟨h1, h2, h3⟩ := pushQ_all l q
      refine ⟨fun x => ?_, h2, h3⟩
      rw [h1, List.mem_cons]
      constructor
      · rintro (h4 | h4)
        · exact .inl h4
        · exact .inr (.inr h4)
      · rintro (h4 | rfl | h4)
        · exact .inl h4
        · exact .inl h
        · exact .inr h4
    · rw [if_neg h]
      obtain ⟨h1, h2, h3⟩ := pushQ_all l (q ++ [k])
      refine ⟨fun x => ?_, fun hn => h2 ?_, (List.prefix_append q [k]).trans h3⟩
      · rw [h1, List.mem_append, List.mem_singleton, List.mem_cons]
        constructor
        · rintro ((h4 | rfl) | h4)
          · exact .inl h4
          · exact .inr (.inl rfl)
          · exact .inr (.inr h4)
        · rintro (h4 | rfl | h4)
          · exact .inl (.inl h4)
          · exact .inl (.inr rfl)
          · exact .inr h4
      · rw [List.nodup_append]
        exact ⟨hn, by simp, fun a ha b hb => by rw [List.mem_singleton.1 hb]; rintro rfl; exact h ha⟩
theorem pushQ_len (l q : List (List UInt8)) : (pushQ q l).length ≤ q.length + l.length := by
  induction l generalizing q with
  | nil => exact Nat.le_refl _
  | cons k l ih =>
    have h := ih (if k ∈ q then q else q ++ [k])
    have h2 : (if k ∈ q then q else q ++ [k]).length ≤ q.length + 1 := by split <;> simp
    show (pushQ (if k ∈ q then q else q ++ [k]) l).length ≤ _
    rw [List.length_cons]; omega
theorem pushQ_take {q l : List (List UInt8)} {i : Nat} (h : i ≤ q.length) : (pushQ q l).take i = q.take i := by
  obtain ⟨_, _, ⟨t, ht⟩⟩ := pushQ_all l q
  rw [← ht, List.take_append_of_le_length h]
/-- Where the reference's loop stands: the first i have been looked at. -/
structure RInv (o : List Snp) (P : List UInt8 → Prop) (q : List (List UInt8)) (i : Nat) : Prop where
  nd : q.Nodup
  seed : ∀ x, P x → x ∈ q
  snd : ∀ x ∈ q, Reached o P x
  clo : ∀ x ∈ q.take i, ∀ y ∈ kidsO o x, y ∈ q
theorem RInv.start (o : List Snp) (l : List (List UInt8)) : RInv o (seedP l) (setOf l) 0 :=
  ⟨up_nodup (setOf_up l), fun _ h => setOf_mem.2 h, fun _ h => Reached.seed (setOf_mem.1 h), by simp⟩
theorem RInv.push {o : List Snp} {P : List UInt8 → Prop} {q : List (List UInt8)} {i : Nat} (h : RInv o P q i) (hi : i < q.length) : RInv o P (pushQ q (kidsO o q[i])) (i + 1) ∧ q.length ≤ (pushQ q (kidsO o q[i])).length := by
  obtain ⟨h1, h2, ⟨t, ht⟩⟩ := pushQ_all (kidsO o q[i]) q
  have hl : q.length ≤ (pushQ q (kidsO o q[i])).length := by rw [← ht, List.length_append]; omega
  refine ⟨⟨h2 h.nd, fun x hx => (h1 x).2 (.inl (h.seed x hx)), fun x hx => ?_, fun x hx y hy => ?_⟩, hl⟩
  · rcases (h1 x).1 hx with h3 | h3
    · exact h.snd x h3
    · exact (h.snd _ (List.getElem_mem hi)).next h3
  · rw [← ht, List.take_append_of_le_length (by omega), List.take_succ_eq_append_getElem hi, List.mem_append, List.mem_singleton] at hx
    rcases hx with hx | rfl
    · exact (h1 y).2 (.inl (h.clo x hx y hy))
    · exact (h1 y).2 (.inr hy)
theorem RInv.skip {o : List Snp} {P : List UInt8 → Prop} {q : List (List UInt8)} {i : Nat} (h : RInv o P q i) (hi : i < q.length) (hk : kidsO o q[i] = []) : RInv o P q (i + 1) := by
  have := (h.push hi).1
  rw [hk] at this
  exact this
/-- Whether the bytes of a key are there and are a node's. -/
noncomputable def okO (o : List Snp) (k : List UInt8) : Bool := (findR o k).isSome && ((readN (rootOf (findR o k))).2 == 0)
theorem okO_no {o : List Snp} {k : List UInt8} (h : okO o k = false) : kidsO o k = [] := by
  unfold okO at h
  unfold kidsO
  cases hf : findR o k with
  | none => exact kidsR_nil
  | some r =>
    rw [hf] at h
    refine kidsR_bad fun h2 => ?_
    rw [h2] at h; simp at h
theorem okO_yes {o : List Snp} {k : List UInt8} (h : okO o k = true) : (findR o k).isSome = true ∧ (readN (rootOf (findR o k))).2 = 0 ∧ kidsO o k = kidsN (readN (rootOf (findR o k))).1 := by
  unfold okO at h
  rw [Bool.and_eq_true, beq_iff_eq] at h
  exact ⟨h.1, h.2, kidsR_ok h.2⟩
theorem all_step {f : List UInt8 → Bool} {q : List (List UInt8)} {i : Nat} (h : i < q.length) : (q.take (i + 1)).all f = ((q.take i).all f && f q[i]) := by
  rw [List.take_succ_eq_append_getElem h, List.all_append]; simp
theorem RInv.done {o : List Snp} {P : List UInt8 → Prop} {q : List (List UInt8)} {i : Nat} (h : RInv o P q i) (hi : q.length ≤ i) (x : List UInt8) : x ∈ q ↔ Reached o P x :=
  ⟨h.snd x, fun hx => hx (fun y => y ∈ q) h.seed (fun k y hk hy => h.clo k (by rw [List.take_of_length_le hi]; exact hk) y hy)⟩
end Go.Proofs.YtocommjoncchpaaGreatDoor

namespace Go.Proofs.YtocommjoncchpaaGreatDoor

/-- The queue behind n keys. -/
noncomputable def qAt (o : List Snp) (l : List (List UInt8)) : Nat → List (List UInt8)
  | 0 => setOf l
  | n + 1 => match (qAt o l n)[n]? with
    | some k => pushQ (qAt o l n) (kidsO o k)
    | none => qAt o l n
theorem qAt_more {o : List Snp} {l : List (List UInt8)} {n : Nat} {k : List UInt8} (h : (qAt o l n)[n]? = some k) : qAt o l (n + 1) = pushQ (qAt o l n) (kidsO o k) := by
  rw [qAt, h]
theorem qAt_end {o : List Snp} {l : List (List UInt8)} {n : Nat} (h : (qAt o l n).length ≤ n) : qAt o l (n + 1) = qAt o l n := by
  rw [qAt, List.getElem?_eq_none h]
theorem qAt_inv (o : List Snp) (l : List (List UInt8)) : ∀ n, RInv o (seedP l) (qAt o l n) n
  | 0 => RInv.start o l
  | n + 1 => by
    have h := qAt_inv o l n
    by_cases hn : n < (qAt o l n).length
    · rw [qAt_more (List.getElem?_eq_getElem hn)]
      exact (h.push hn).1
    · rw [qAt_end (by omega)]
      refine ⟨h.nd, h.seed, h.snd, fun x hx => h.clo x ?_⟩
      rw [List.take_of_length_le (by omega)] at hx ⊢
      exact hx
theorem qAt_step (o : List Snp) (l : List (List UInt8)) (n : Nat) : qAt o l n <+: qAt o l (n + 1) := by
  by_cases hn : n < (qAt o l n).length
  · rw [qAt_more (List.getElem?_eq_getElem hn)]
    exact (pushQ_all _ _).2.2
  · rw [qAt_end (by omega)]
    exact List.prefix_refl _
theorem qAt_le {o : List Snp} {l : List (List UInt8)} {n : Nat} : ∀ {m : Nat}, n ≤ m → qAt o l n <+: qAt o l m
  | 0, h => by obtain rfl : n = 0 := by omega
               exact List.prefix_refl _
  | m + 1, h => by
    by_cases e : n = m + 1
    · rw [e]; exact List.prefix_refl _
    · exact (qAt_le (show n ≤ m by omega)).trans (qAt_step o l m)
theorem qAt_stop {o : List Snp} {l : List (List UInt8)} {n : Nat} (h : (qAt o l n).length ≤ n) : ∀ {m : Nat}, n ≤ m → qAt o l m = qAt o l n
  | 0, h2 => by obtain rfl : n = 0 := by omega
                rfl
  | m + 1, h2 => by
    by_cases e : n = m + 1
    · rw [e]
    · have h3 := qAt_stop h (show n ≤ m by omega)
      rw [qAt_end (by rw [h3]; omega), h3]
/-- The whole queue. -/
noncomputable def qF (o : List Snp) (l : List (List UInt8)) : List (List UInt8) := qAt o l 1000001
section
variable {o : List Snp} {l : List (List UInt8)}
theorem qAt_len (h : 32 * l.length + rawsL o ≤ 32 * 1000000) (n : Nat) : (qAt o l n).length ≤ 1000000 := by
  have h2 := qAt_inv o l n
  have := GInv.nodup_few (o := o) (P := seedP l) (q := qAt o l n) (l := l) (fun x hx => hx.1) h2.nd h2.snd
  omega
theorem qF_of_end (h : 32 * l.length + rawsL o ≤ 32 * 1000000) {n : Nat} (hn : (qAt o l n).length ≤ n) : qF o l = qAt o l n := by
  by_cases h2 : n ≤ 1000001
  · exact qAt_stop hn h2
  · have h3 := qAt_len h 1000001
    exact (qAt_stop (n := 1000001) (by omega) (m := n) (by omega)).symm
theorem qF_pre (h : 32 * l.length + rawsL o ≤ 32 * 1000000) (n : Nat) : qAt o l n <+: qF o l := by
  by_cases h2 : n ≤ 1000001
  · exact qAt_le h2
  · have h3 := qAt_len h 1000001
    rw [qAt_stop (n := 1000001) (by omega) (m := n) (by omega)]
    exact List.prefix_refl _
theorem qF_get (h : 32 * l.length + rawsL o ≤ 32 * 1000000) {n : Nat} (hn : n < (qAt o l n).length) : (qF o l).take (n + 1) = (qF o l).take n ++ [(qAt o l n)[n]] ∧ (qF o l)[n]? = some (qAt o l n)[n] := by
  obtain ⟨t, ht⟩ := qF_pre (o := o) (l := l) h n
  have h2 : (qF o l)[n]? = some (qAt o l n)[n] := by
    rw [← ht, List.getElem?_append_left hn, List.getElem?_eq_getElem hn]
  have hlt : n < (qF o l).length := by rw [← ht, List.length_append]; omega
  refine ⟨?_, h2⟩
  rw [List.take_succ_eq_append_getElem hlt]
  rw [List.getElem?_eq_getElem hlt] at h2
  rw [Option.some.inj h2]
theorem qF_mem (h : 32 * l.length + rawsL o ≤ 32 * 1000000) (x : List UInt8) : x ∈ qF o l ↔ Reached o (seedP l) x :=
  (qAt_inv o l 1000001).done (by have := qAt_len h 1000001; omega) x
theorem qF_len (h : 32 * l.length + rawsL o ≤ 32 * 1000000) : (qF o l).length ≤ 1000000 := qAt_len h _
theorem qF_32 (h : 32 * l.length + rawsL o ≤ 32 * 1000000) {x : List UInt8} (hx : x ∈ qF o l) : x.length = 32 :=
  ((qF_mem h x).1 hx).len fun _ hk => hk.2
/-- The set of the queue. -/
theorem qF_set (h : 32 * l.length + rawsL o ≤ 32 * 1000000) : upS (setOf (qF o l)) ∧ (∀ x, x ∈ setOf (qF o l) ↔ Reached o (seedP l) x) ∧ (setOf (qF o l)).all (okO o) = (qF o l).all (okO o) := by
  refine ⟨setOf_up _, fun x => ?_, ?_⟩
  · rw [setOf_mem, qF_mem h]
    exact ⟨fun h1 => h1.1, fun h1 => ⟨h1, h1.len fun k hk => hk.2⟩⟩
  · rw [Bool.eq_iff_iff, List.all_eq_true, List.all_eq_true]
    exact ⟨fun h1 x hx => h1 x (setOf_mem.2 ⟨hx, qF_32 h hx⟩), fun h1 x hx => h1 x (setOf_mem.1 hx).1⟩
end

/-! What is reached from what is reached; from two lists. -/
theorem Reached.again {o : List Snp} {P : List UInt8 → Prop} {Q : List (List UInt8)} (hQ : ∀ x, x ∈ Q ↔ Reached o P x) (h32 : ∀ x ∈ Q, x.length = 32) (x : List UInt8) : Reached o (seedP Q) x ↔ x ∈ Q := by
  constructor
  · intro h
    exact h (fun y => y ∈ Q) (fun k hk => hk.1) (fun k y hk hy => (hQ y).2 (((hQ k).1 hk).next hy))
  · intro h
    exact Reached.seed ⟨h, h32 x h⟩
theorem Reached.either {o : List Snp} {a b : List (List UInt8)} (x : List UInt8) : Reached o (seedP (a ++ b)) x ↔ Reached o (seedP a) x ∨ Reached o (seedP b) x := by
  constructor
  · intro h
    refine h (fun y => Reached o (seedP a) y ∨ Reached o (seedP b) y) (fun k hk => ?_) (fun k y hk hy => hk.imp (fun h => h.next hy) (fun h => h.next hy))
    rcases List.mem_append.1 hk.1 with h1 | h1
    · exact .inl (Reached.seed ⟨h1, hk.2⟩)
    · exact .inr (Reached.seed ⟨h1, hk.2⟩)
  · rintro (h | h)
    · exact h.imp fun k hk => ⟨List.mem_append.2 (.inl hk.1), hk.2⟩
    · exact h.imp fun k hk => ⟨List.mem_append.2 (.inr hk.1), hk.2⟩
end Go.Proofs.YtocommjoncchpaaGreatDoor

namespace Go.Proofs.YtocommjoncchpaaGreatDoor
open Go.RowKit

def ReachPost (o : List Snp) (l : List (List UInt8)) (w : World) (e : Ending) (w' : World) : Prop :=
  ∃ v Q, e = .returned (.tuple #[v, .bool (Q.all (okO o))]) ∧ StrRow w' v Q ∧ upS Q ∧ (∀ x, x ∈ Q ↔ Reached o (seedP l) x) ∧ Below w.heap.size w w'
theorem all_setOf {f : List UInt8 → Bool} {q : List (List UInt8)} (h : ∀ x ∈ q, x.length = 32) : (setOf q).all f = q.all f := by
  rw [Bool.eq_iff_iff, List.all_eq_true, List.all_eq_true]
  constructor
  · intro h1 x hx; exact h1 x (setOf_mem.2 ⟨hx, h x hx⟩)
  · intro h1 x hx; exact h1 x (setOf_mem.1 hx).1
end Go.Proofs.YtocommjoncchpaaGreatDoor
