/- What is reached from keys on: plain. What is reached, in the order in which a queue comes to it. What is reached, as a call hands it back. The reference's sets of keys: Has, Same. slices.IndexFunc and slices.DeleteFunc, at string; the closure by its contract. -/
import Derived.Test.YtkejdbidomlonaaGreatDoorJKeyNP
import Derived.Test.YtkejdbidomlonaaGreatDoorJClash12
import Derived.Test.YtkejdbidomlonaaGreatDoorJNodeFit
import Derived.Test.YtkejdbidomlonaaGreatDoorJBuildPlain
import Derived.Test.YtkejdbidomlonaaGreatDoorJSnpPlain
import Derived.Test.YtkejdbidomlonaaGreatDoorJPlain
import Derived.Test.YtkejdbidomlonaaGreatDoorJKeysP
namespace Go.Proofs.YtkejdbidomlonaaGreatDoor

/-- The keys that bytes name. -/
noncomputable def kidsR (raw : List UInt8) : List (List UInt8) := if (readN raw).2 = 0 then kidsN (readN raw).1 else []
noncomputable def kidsO (o : List Snp) (k : List UInt8) : List (List UInt8) := kidsR (rootOf (findR o k))
/-- What is in each set that has the first ones and is closed. -/
def Reached (o : List Snp) (P : List UInt8 → Prop) (x : List UInt8) : Prop :=
  ∀ Q : List UInt8 → Prop, (∀ k, P k → Q k) → (∀ k y, Q k → y ∈ kidsO o k → Q y) → Q x
theorem Reached.seed {o : List Snp} {P : List UInt8 → Prop} {k : List UInt8} (h : P k) : Reached o P k := fun _ h1 _ => h1 k h
theorem Reached.next {o : List Snp} {P : List UInt8 → Prop} {k y : List UInt8} (h : Reached o P k) (hy : y ∈ kidsO o k) : Reached o P y := fun Q h1 h2 => h2 k y (h Q h1 h2) hy
theorem Reached.imp {o : List Snp} {P P' : List UInt8 → Prop} {x : List UInt8} (h : Reached o P x) (hp : ∀ k, P k → P' k) : Reached o P' x := fun Q h1 h2 => h Q (fun k hk => h1 k (hp k hk)) h2
theorem kidsN_32 {n : Nod} {x : List UInt8} (h : x ∈ kidsN n) : x.length = 32 := (setOf_mem.1 h).2
theorem kidsR_32 {raw x : List UInt8} (h : x ∈ kidsR raw) : x.length = 32 := by
  unfold kidsR at h
  split at h
  · exact kidsN_32 h
  · cases h
theorem kidsR_ok {raw : List UInt8} (h : (readN raw).2 = 0) : kidsR raw = kidsN (readN raw).1 := if_pos h
theorem kidsR_bad {raw : List UInt8} (h : (readN raw).2 ≠ 0) : kidsR raw = [] := if_neg h
theorem read_nil : (readN []).2 ≠ 0 := by simp [readN, parseN]
theorem kidsR_nil : kidsR [] = [] := kidsR_bad read_nil

/-! How many there are. -/
theorem flatB_len {α : Type} (f : α → List UInt8) (n : Nat) : ∀ (l : List α), (∀ x ∈ l, n ≤ (f x).length) → n * l.length ≤ (l.flatMap f).length
  | [], _ => by simp
  | x :: l, h => by
    have h1 := flatB_len f n l (fun y hy => h y (List.mem_cons_of_mem _ hy))
    have h2 := h x (by simp)
    rw [List.flatMap_cons, List.length_append, List.length_cons, Nat.mul_succ]
    omega
theorem write_len {n : Nod} (hf : FitN n) : 32 * (n.parts.length + n.ents.length) ≤ (writeN n).length := by
  have hw : writeN n = UInt8.ofNat n.kind.toNat :: bodyN n := if_pos (fitN_iff.2 hf)
  rw [hw, List.length_cons]
  rcases hf with ⟨h1, h2, h3, h4, h5⟩ | ⟨h1, h2, h3, h4⟩ | ⟨h1, h2, h3, h4⟩
  · rw [h4, h5]; simp
  · have hb : bodyN n = putV n.parts.length ++ n.parts.flatMap partW := by unfold bodyN; rw [if_neg (by omega), if_pos h1]
    have := flatB_len partW 32 n.parts (fun p hp => by
      have := h4.ok p hp
      unfold partOk at this
      rw [Bool.and_eq_true] at this
      have h5 := of_decide_eq_true (p := p.1.length = 32) (by simpa using this.1)
      unfold partW
      rw [List.length_append]; omega)
    rw [hb, h3, List.length_append]; simp only [List.length_nil]; omega
  · have hb : bodyN n = putV n.ents.length ++ n.ents.flatMap entW := by unfold bodyN; rw [if_neg (by omega), if_neg (by omega)]
    have := flatB_len entW 32 n.ents (fun p hp => by
      have h5 := (entOk_parts (h4.ok p hp)).2.1
      unfold entW
      rw [List.length_append]; omega)
    rw [hb, h3, List.length_append]; simp only [List.length_nil]; omega
theorem kidsR_len (raw : List UInt8) : 32 * (kidsR raw).length ≤ raw.length := by
  unfold kidsR
  split
  · rename_i h
    obtain ⟨h1, h2⟩ := read_ok (s := raw) (n := (readN raw).1) (by rw [← h])
    have h3 := write_len h1
    rw [h2] at h3
    have := kidsN_len (readN raw).1
    omega
  · simp
theorem kidsR_1084 (raw : List UInt8) : (kidsR raw).length ≤ 1084 := by
  unfold kidsR
  split
  · exact kids_bound (by assumption)
  · simp
/-- All keys that objects name. -/
noncomputable def allK (o : List Snp) : List (List UInt8) := o.flatMap (fun x => kidsR x.2)
theorem allK_len : ∀ (o : List Snp), 32 * (allK o).length ≤ rawsL o
  | [] => by simp [allK, rawsL]
  | x :: o => by
    have h1 := allK_len o
    have h2 := kidsR_len x.2
    unfold allK rawsL at *
    rw [List.flatMap_cons, List.length_append, List.map_cons, List.sum_cons]
    omega
theorem kidsO_mem {o : List Snp} {k x : List UInt8} (h : x ∈ kidsO o k) : x ∈ allK o := by
  unfold kidsO at h
  cases hf : findR o k with
  | none => rw [hf] at h; simp only [rootOf] at h; rw [kidsR_nil] at h; cases h
  | some r =>
    rw [hf] at h
    simp only [rootOf] at h
    unfold findR at hf
    rw [Option.map_eq_some_iff] at hf
    obtain ⟨y, hy, rfl⟩ := hf
    exact List.mem_flatMap.2 ⟨y, List.mem_of_find?_eq_some hy, h⟩
theorem Reached.mem {o : List Snp} {P : List UInt8 → Prop} {x : List UInt8} (h : Reached o P x) : P x ∨ x ∈ allK o :=
  h (fun x => P x ∨ x ∈ allK o) (fun _ h => .inl h) (fun _ _ _ hy => .inr (kidsO_mem hy))
theorem Reached.len {o : List Snp} {P : List UInt8 → Prop} {x : List UInt8} (h : Reached o P x) (hP : ∀ k, P k → k.length = 32) : x.length = 32 :=
  h (fun x => x.length = 32) hP (fun _ _ _ hy => kidsR_32 hy)
theorem nodup_len {α : Type} [DecidableEq α] : ∀ (a b : List α), a.Nodup → (∀ x ∈ a, x ∈ b) → a.length ≤ b.length
  | [], _, _, _ => Nat.zero_le _
  | x :: a, b, hn, h => by
    rw [List.nodup_cons] at hn
    have hx := h x (by simp)
    have h1 := nodup_len a (b.erase x) hn.2 (fun y hy => (List.mem_erase_of_ne (by rintro rfl; exact hn.1 hy)).2 (h y (List.mem_cons_of_mem _ hy)))
    rw [List.length_erase_of_mem hx] at h1
    have := List.length_pos_of_mem hx
    rw [List.length_cons]; omega
theorem up_nodup {l : List (List UInt8)} (h : upS l) : l.Nodup := by
  unfold upS at h
  exact h.imp fun {a b} (hab : a < b) e => by subst e; exact List.lt_irrefl _ hab

def seedP (l : List (List UInt8)) (x : List UInt8) : Prop := x ∈ l ∧ x.length = 32
theorem GInv.nodup_few {o : List Snp} {P : List UInt8 → Prop} {q : List (List UInt8)} {l : List (List UInt8)} (hP : ∀ x, P x → x ∈ l) (hn : q.Nodup) (h : ∀ x ∈ q, Reached o P x) : 32 * q.length ≤ 32 * l.length + rawsL o := by
  have h1 := nodup_len q (l ++ allK o) hn (fun x hx => by
    rcases (h x hx).mem with h2 | h2
    · exact List.mem_append.2 (.inl (hP x h2))
    · exact List.mem_append.2 (.inr h2))
  have h2 := allK_len o
  rw [List.length_append] at h1
  omega

/-! A list that goes on by what it names (the reference). -/
def pushQ (q l : List (List UInt8)) : List (List UInt8) := l.foldl (fun q k => if k ∈ q then q else q ++ [k]) q
theorem pushQ_step {q l : List (List UInt8)} {j : Nat} (h : j < l.length) : pushQ q (l.take (j + 1)) = if l[j] ∈ pushQ q (l.take j) then pushQ q (l.take j) else pushQ q (l.take j) ++ [l[j]] := by
  unfold pushQ
  rw [List.take_succ_eq_append_getElem h, List.foldl_append]; rfl
theorem pushQ_all : ∀ (l q : List (List UInt8)), (∀ x, x ∈ pushQ q l ↔ x ∈ q ∨ x ∈ l) ∧ (q.Nodup → (pushQ q l).Nodup) ∧ q <+: pushQ q l
  | [], q => ⟨fun x => by simp [pushQ], fun h => h, List.prefix_refl _⟩
  | k :: l, q => by
    have e : pushQ q (k :: l) = pushQ (if k ∈ q then q else q ++ [k]) l := rfl
    rw [e]
    by_cases h : k ∈ q
    · rw [if_pos h]
      obtain ⟨h1, h2, h3⟩ := pushQ_all l q
      refine ⟨fun x => ?_, h2, h3⟩
      rw [h1, List.mem_cons]
      constructor
      · rintro (h4 | h4)
        · exact .inl h4
        · exact .inr (.inr h4)
      · rintro (h4 | rfl | h4)
        · exact .inl h4
        · exact .inl h
        · exact .inr h4
    · rw [if_neg h]
      obtain ⟨h1, h2, h3⟩ := pushQ_all l (q ++ [k])
      refine ⟨fun x => ?_, fun hn => h2 ?_, (List.prefix_append q [k]).trans h3⟩
      · rw [h1, List.mem_append, List.mem_singleton, List.mem_cons]
        constructor
        · rintro ((h4 | rfl) | h4)
          · exact .inl h4
          · exact .inr (.inl rfl)
          · exact .inr (.inr h4)
        · rintro (h4 | rfl | h4)
          · exact .inl (.inl h4)
          · exact .inl (.inr rfl)
          · exact .inr h4
      · rw [List.nodup_append]
        exact ⟨hn, by simp, fun a ha b hb => by rw [List.mem_singleton.1 hb]; rintro rfl; exact h ha⟩
theorem pushQ_len (l q : List (List UInt8)) : (pushQ q l).length ≤ q.length + l.length := by
  induction l generalizing q with
  | nil => exact Nat.le_refl _
  | cons k l ih =>
    have h := ih (if k ∈ q then q else q ++ [k])
    have h2 : (if k ∈ q then q else q ++ [k]).length ≤ q.length + 1 := by split <;> simp
    show (pushQ (if k ∈ q then q else q ++ [k]) l).length ≤ _
    rw [List.length_cons]; omega
theorem pushQ_take {q l : List (List UInt8)} {i : Nat} (h : i ≤ q.length) : (pushQ q l).take i = q.take i := by
  obtain ⟨_, _, ⟨t, ht⟩⟩ := pushQ_all l q
  rw [← ht, List.take_append_of_le_length h]
/-- Where the reference's loop stands: the first i have been looked at. -/
structure RInv (o : List Snp) (P : List UInt8 → Prop) (q : List (List UInt8)) (i : Nat) : Prop where
  nd : q.Nodup
  seed : ∀ x, P x → x ∈ q
  snd : ∀ x ∈ q, Reached o P x
  clo : ∀ x ∈ q.take i, ∀ y ∈ kidsO o x, y ∈ q
theorem RInv.start (o : List Snp) (l : List (List UInt8)) : RInv o (seedP l) (setOf l) 0 :=
  ⟨up_nodup (setOf_up l), fun _ h => setOf_mem.2 h, fun _ h => Reached.seed (setOf_mem.1 h), by simp⟩
theorem RInv.push {o : List Snp} {P : List UInt8 → Prop} {q : List (List UInt8)} {i : Nat} (h : RInv o P q i) (hi : i < q.length) : RInv o P (pushQ q (kidsO o q[i])) (i + 1) ∧ q.length ≤ (pushQ q (kidsO o q[i])).length := by
  obtain ⟨h1, h2, ⟨t, ht⟩⟩ := pushQ_all (kidsO o q[i]) q
  have hl : q.length ≤ (pushQ q (kidsO o q[i])).length := by rw [← ht, List.length_append]; omega
  refine ⟨⟨h2 h.nd, fun x hx => (h1 x).2 (.inl (h.seed x hx)), fun x hx => ?_, fun x hx y hy => ?_⟩, hl⟩
  · rcases (h1 x).1 hx with h3 | h3
    · exact h.snd x h3
    · exact (h.snd _ (List.getElem_mem hi)).next h3
  · rw [← ht, List.take_append_of_le_length (by omega), List.take_succ_eq_append_getElem hi, List.mem_append, List.mem_singleton] at hx
    rcases hx with hx | rfl
    · exact (h1 y).2 (.inl (h.clo x hx y hy))
    · exact (h1 y).2 (.inr hy)
theorem RInv.skip {o : List Snp} {P : List UInt8 → Prop} {q : List (List UInt8)} {i : Nat} (h : RInv o P q i) (hi : i < q.length) (hk : kidsO o q[i] = []) : RInv o P q (i + 1) := by
  have := (h.push hi).1
  rw [hk] at this
  exact this
/-- Whether the bytes of a key are there and are a node's. -/
noncomputable def okO (o : List Snp) (k : List UInt8) : Bool := (findR o k).isSome && ((readN (rootOf (findR o k))).2 == 0)
theorem okO_no {o : List Snp} {k : List UInt8} (h : okO o k = false) : kidsO o k = [] := by
  unfold okO at h
  unfold kidsO
  cases hf : findR o k with
  | none => exact kidsR_nil
  | some r =>
    rw [hf] at h
    refine kidsR_bad fun h2 => ?_
    rw [h2] at h; simp at h
theorem okO_yes {o : List Snp} {k : List UInt8} (h : okO o k = true) : (findR o k).isSome = true ∧ (readN (rootOf (findR o k))).2 = 0 ∧ kidsO o k = kidsN (readN (rootOf (findR o k))).1 := by
  unfold okO at h
  rw [Bool.and_eq_true, beq_iff_eq] at h
  exact ⟨h.1, h.2, kidsR_ok h.2⟩
theorem all_step {f : List UInt8 → Bool} {q : List (List UInt8)} {i : Nat} (h : i < q.length) : (q.take (i + 1)).all f = ((q.take i).all f && f q[i]) := by
  rw [List.take_succ_eq_append_getElem h, List.all_append]; simp
theorem RInv.done {o : List Snp} {P : List UInt8 → Prop} {q : List (List UInt8)} {i : Nat} (h : RInv o P q i) (hi : q.length ≤ i) (x : List UInt8) : x ∈ q ↔ Reached o P x :=
  ⟨h.snd x, fun hx => hx (fun y => y ∈ q) h.seed (fun k y hk hy => h.clo k (by rw [List.take_of_length_le hi]; exact hk) y hy)⟩
end Go.Proofs.YtkejdbidomlonaaGreatDoor

namespace Go.Proofs.YtkejdbidomlonaaGreatDoor

/-- The queue behind n keys. -/
noncomputable def qAt (o : List Snp) (l : List (List UInt8)) : Nat → List (List UInt8)
  | 0 => setOf l
  | n + 1 => match (qAt o l n)[n]? with
    | some k => pushQ (qAt o l n) (kidsO o k)
    | none => qAt o l n
theorem qAt_more {o : List Snp} {l : List (List UInt8)} {n : Nat} {k : List UInt8} (h : (qAt o l n)[n]? = some k) : qAt o l (n + 1) = pushQ (qAt o l n) (kidsO o k) := by
  rw [qAt, h]
theorem qAt_end {o : List Snp} {l : List (List UInt8)} {n : Nat} (h : (qAt o l n).length ≤ n) : qAt o l (n + 1) = qAt o l n := by
  rw [qAt, List.getElem?_eq_none h]
theorem qAt_inv (o : List Snp) (l : List (List UInt8)) : ∀ n, RInv o (seedP l) (qAt o l n) n
  | 0 => RInv.start o l
  | n + 1 => by
    have h := qAt_inv o l n
    by_cases hn : n < (qAt o l n).length
    · rw [qAt_more (List.getElem?_eq_getElem hn)]
      exact (h.push hn).1
    · rw [qAt_end (by omega)]
      refine ⟨h.nd, h.seed, h.snd, fun x hx => h.clo x ?_⟩
      rw [List.take_of_length_le (by omega)] at hx ⊢
      exact hx
theorem qAt_step (o : List Snp) (l : List (List UInt8)) (n : Nat) : qAt o l n <+: qAt o l (n + 1) := by
  by_cases hn : n < (qAt o l n).length
  · rw [qAt_more (List.getElem?_eq_getElem hn)]
    exact (pushQ_all _ _).2.2
  · rw [qAt_end (by omega)]
    exact List.prefix_refl _
theorem qAt_le {o : List Snp} {l : List (List UInt8)} {n : Nat} : ∀ {m : Nat}, n ≤ m → qAt o l n <+: qAt o l m
  | 0, h => by obtain rfl : n = 0 := by omega
               exact List.prefix_refl _
  | m + 1, h => by
    by_cases e : n = m + 1
    · rw [e]; exact List.prefix_refl _
    · exact (qAt_le (show n ≤ m by omega)).trans (qAt_step o l m)
theorem qAt_stop {o : List Snp} {l : List (List UInt8)} {n : Nat} (h : (qAt o l n).length ≤ n) : ∀ {m : Nat}, n ≤ m → qAt o l m = qAt o l n
  | 0, h2 => by obtain rfl : n = 0 := by omega
                rfl
  | m + 1, h2 => by
    by_cases e : n = m + 1
    · rw [e]
    · have h3 := qAt_stop h (show n ≤ m by omega)
      rw [qAt_end (by rw [h3]; omega), h3]
/-- The whole queue. -/
noncomputable def qF (o : List Snp) (l : List (List UInt8)) : List (List UInt8) := qAt o l 1000001
section
variable {o : List Snp} {l : List (List UInt8)}
theorem qAt_len (h : 32 * l.length + rawsL o ≤ 32 * 1000000) (n : Nat) : (qAt o l n).length ≤ 1000000 := by
  have h2 := qAt_inv o l n
  have := GInv.nodup_few (o := o) (P := seedP l) (q := qAt o l n) (l := l) (fun x hx => hx.1) h2.nd h2.snd
  omega
theorem qF_of_end (h : 32 * l.length + rawsL o ≤ 32 * 1000000) {n : Nat} (hn : (qAt o l n).length ≤ n) : qF o l = qAt o l n := by
  by_cases h2 : n ≤ 1000001
  · exact qAt_stop hn h2
  · have h3 := qAt_len h 1000001
    exact (qAt_stop (n := 1000001) (by omega) (m := n) (by omega)).symm
theorem qF_pre (h : 32 * l.length + rawsL o ≤ 32 * 1000000) (n : Nat) : qAt o l n <+: qF o l := by
  by_cases h2 : n ≤ 1000001
  · exact qAt_le h2
  · have h3 := qAt_len h 1000001
    rw [qAt_stop (n := 1000001) (by omega) (m := n) (by omega)]
    exact List.prefix_refl _
theorem qF_get (h : 32 * l.length + rawsL o ≤ 32 * 1000000) {n : Nat} (hn : n < (qAt o l n).length) : (qF o l).take (n + 1) = (qF o l).take n ++ [(qAt o l n)[n]] ∧ (qF o l)[n]? = some (qAt o l n)[n] := by
  obtain ⟨t, ht⟩ := qF_pre (o := o) (l := l) h n
  have h2 : (qF o l)[n]? = some (qAt o l n)[n] := by
    rw [← ht, List.getElem?_append_left hn, List.getElem?_eq_getElem hn]
  have hlt : n < (qF o l).length := by rw [← ht, List.length_append]; omega
  refine ⟨?_, h2⟩
  rw [List.take_succ_eq_append_getElem hlt]
  rw [List.getElem?_eq_getElem hlt] at h2
  rw [Option.some.inj h2]
theorem qF_mem (h : 32 * l.length + rawsL o ≤ 32 * 1000000) (x : List UInt8) : x ∈ qF o l ↔ Reached o (seedP l) x :=
  (qAt_inv o l 1000001).done (by have := qAt_len h 1000001; omega) x
theorem qF_len (h : 32 * l.length + rawsL o ≤ 32 * 1000000) : (qF o l).length ≤ 1000000 := qAt_len h _
theorem qF_32 (h : 32 * l.length + rawsL o ≤ 32 * 1000000) {x : List UInt8} (hx : x ∈ qF o l) : x.length = 32 :=
  ((qF_mem h x).1 hx).len fun _ hk => hk.2
/-- The set of the queue. -/
theorem qF_set (h : 32 * l.length + rawsL o ≤ 32 * 1000000) : upS (setOf (qF o l)) ∧ (∀ x, x ∈ setOf (qF o l) ↔ Reached o (seedP l) x) ∧ (setOf (qF o l)).all (okO o) = (qF o l).all (okO o) := by
  refine ⟨setOf_up _, fun x => ?_, ?_⟩
  · rw [setOf_mem, qF_mem h]
    exact ⟨fun h1 => h1.1, fun h1 => ⟨h1, h1.len fun k hk => hk.2⟩⟩
  · rw [Bool.eq_iff_iff, List.all_eq_true, List.all_eq_true]
    exact ⟨fun h1 x hx => h1 x (setOf_mem.2 ⟨hx, qF_32 h hx⟩), fun h1 x hx => h1 x (setOf_mem.1 hx).1⟩
end

/-! What is reached from what is reached; from two lists. -/
theorem Reached.again {o : List Snp} {P : List UInt8 → Prop} {Q : List (List UInt8)} (hQ : ∀ x, x ∈ Q ↔ Reached o P x) (h32 : ∀ x ∈ Q, x.length = 32) (x : List UInt8) : Reached o (seedP Q) x ↔ x ∈ Q := by
  constructor
  · intro h
    exact h (fun y => y ∈ Q) (fun k hk => hk.1) (fun k y hk hy => (hQ y).2 (((hQ k).1 hk).next hy))
  · intro h
    exact Reached.seed ⟨h, h32 x h⟩
theorem Reached.either {o : List Snp} {a b : List (List UInt8)} (x : List UInt8) : Reached o (seedP (a ++ b)) x ↔ Reached o (seedP a) x ∨ Reached o (seedP b) x := by
  constructor
  · intro h
    refine h (fun y => Reached o (seedP a) y ∨ Reached o (seedP b) y) (fun k hk => ?_) (fun k y hk hy => hk.imp (fun h => h.next hy) (fun h => h.next hy))
    rcases List.mem_append.1 hk.1 with h1 | h1
    · exact .inl (Reached.seed ⟨h1, hk.2⟩)
    · exact .inr (Reached.seed ⟨h1, hk.2⟩)
  · rintro (h | h)
    · exact h.imp fun k hk => ⟨List.mem_append.2 (.inl hk.1), hk.2⟩
    · exact h.imp fun k hk => ⟨List.mem_append.2 (.inr hk.1), hk.2⟩
end Go.Proofs.YtkejdbidomlonaaGreatDoor

namespace Go.Proofs.YtkejdbidomlonaaGreatDoor
open Go.RowKit

def ReachPost (o : List Snp) (l : List (List UInt8)) (w : World) (e : Ending) (w' : World) : Prop :=
  ∃ v Q, e = .returned (.tuple #[v, .bool (Q.all (okO o))]) ∧ StrRow w' v Q ∧ upS Q ∧ (∀ x, x ∈ Q ↔ Reached o (seedP l) x) ∧ Below w.heap.size w w'
theorem all_setOf {f : List UInt8 → Bool} {q : List (List UInt8)} (h : ∀ x ∈ q, x.length = 32) : (setOf q).all f = q.all f := by
  rw [Bool.eq_iff_iff, List.all_eq_true, List.all_eq_true]
  constructor
  · intro h1 x hx; exact h1 x (setOf_mem.2 ⟨hx, h x hx⟩)
  · intro h1 x hx; exact h1 x (setOf_mem.1 hx).1
end Go.Proofs.YtkejdbidomlonaaGreatDoor

namespace Go.Proofs.YtkejdbidomlonaaGreatDoor
open Go.RowKit

set_option maxHeartbeats 2000000 in
set_option maxRecDepth 100000 in
theorem rsame5_walk (v v2 : Value) (xs ys : List (List UInt8)) (w : World) (hr : StrRow w v xs) (hr2 : StrRow w v2 ys) (hcnt : xs.length ≤ 1100000) :
    Calls Tryz.prog 18 #[v, v2] w fun e w' => e = .returned (.bool (decide (xs = ys))) ∧ Below w.heap.size w w' := by
  obtain ⟨a, c, rfl, hc, hm, hx⟩ := hr
  obtain ⟨a2, c2, rfl, hc2, hm2, hy⟩ := hr2
  have HX := Lib.hid hx
  have HY := Lib.hid hy
  have HT := Lib.hid (fun (h : xs = ys) => decide_eq_true h)
  have HF := Lib.hid (fun (h : ¬ xs = ys) => decide_eq_false h)
  generalize decide (xs = ys) = res at *
  clear hx hy
  by_cases hl : xs.length = ys.length
  · have HL := Lib.hid hl
    have hne : ((xs.length : Int) != (ys.length : Int)) = false := by rw [bne_eq_false_iff_eq]; omega
    have hle1 : xs.length ≤ ys.length := by omega
    clear hl
    go_enter Tryz.func18, Tryz.ntmps18
    go_wp2
    go_loopw [5] (fun i wr => ∃ k : Nat, k ≤ xs.length ∧ i = .int .i64 k ∧ xs.take k = ys.take k ∧ Below w.heap.size w wr) (fun i _ => xs.length - (intOf i).toNat)
    case atStart => exact ⟨0, Nat.zero_le _, rfl, rfl, Below.refl _ _⟩
    case round =>
      obtain ⟨k, hk, rfl, ht, hB⟩ := hrel
      have HTK := Lib.hid ht
      clear ht
      by_cases h1 : k < xs.length
      · have h2 : k < ys.length := by omega
        have h1' : (k : Int) < (xs.length : Int) := by omega
        have h2' : (k : Int) < (ys.length : Int) := by omega
        have hx := HX.out
        rcases hx with hx | ⟨b, o, rfl, hx⟩
        · exfalso; rw [hx] at h1; simp at h1
        have hy := HY.out
        rcases hy with hy | ⟨b2, o2, rfl, hy⟩
        · exfalso; rw [hy] at h2; simp at h2
        have hc1 := cell_below hB (str_cell hx h1)
        have hc2 := cell_below hB (str_cell hy h2)
        have HS := Lib.hid (fun (h : xs[k] = ys[k]) => show xs.take (k + 1) = ys.take (k + 1) by rw [List.take_succ_eq_append_getElem h1, List.take_succ_eq_append_getElem h2, HTK.out, h])
        have HD := Lib.hid (fun (h : ¬ xs[k] = ys[k]) => HF.out (fun e => h (by simp [e])))
        clear hx hy
        generalize xs[k] = p at *
        generalize ys[k] = q at *
        by_cases hpq : p = q
        · have HSS := Lib.hid (HS.out hpq)
          have hb : (p == q) = true := by rw [beq_iff_eq]; exact hpq
          have hb' : (p != q) = false := by rw [bne_eq_false_iff_eq]; exact hpq
          clear hpq
          go_wp2
          go_quiet (fail)
          go_wp2
          go_roundw
          case rel => exact ⟨k + 1, by omega, by go_num, HSS.out, belowN hB _⟩
          case measure => simp [intOf]; omega
        · have HR := Lib.hid (HD.out hpq)
          have hb : (p == q) = false := by rw [beq_eq_false_iff_ne]; exact hpq
          have hb' : (p != q) = true := by rw [bne_iff_ne]; exact hpq
          clear hpq
          go_wp2
          go_quiet (fail)
          go_wp2
          go_ret
          exact ⟨by rw [HR.out]; rfl, belowN hB _⟩
      · have h1' : ¬ (k : Int) < (xs.length : Int) := by omega
        have HR := Lib.hid (HT.out (by
          have e := HTK.out
          have e2 := HL.out
          rwa [List.take_of_length_le (by omega), List.take_of_length_le (by omega)] at e))
        go_wp2
        go_ret
        exact ⟨by rw [HR.out]; rfl, hB⟩
  · have HR := Lib.hid (HF.out (fun e => hl (congrArg List.length e)))
    have hne : ((xs.length : Int) != (ys.length : Int)) = true := by rw [bne_iff_ne]; omega
    clear hl
    go_enter Tryz.func18, Tryz.ntmps18
    go_wp2
    go_ret
    exact ⟨by rw [HR.out]; rfl, Below.refl _ _⟩
end Go.Proofs.YtkejdbidomlonaaGreatDoor

namespace Go.Proofs.YtkejdbidomlonaaGreatDoor
open Go.RowKit

theorem rest1_start {l : List (List UInt8)} {L : List Value} (h : L.take l.length = l.map S) (b : Nat) : (L.drop b).take (l.length - b) = (l.drop b).map S := by
  rw [List.map_drop, ← h, List.drop_take]
theorem head1_start {l : List (List UInt8)} {L : List Value} (h : L.take l.length = l.map S) {b : Nat} (hb : b ≤ l.length) : L.take b = (l.take b).map S := by
  rw [List.map_take, ← h, List.take_take, Nat.min_eq_left hb]
theorem rest1_at {l : List (List UInt8)} {L : List Value} {b : Nat} (hb : b < l.length) (h : (L.drop b).take (l.length - b) = (l.drop b).map S) : L[b]? = some (S l[b]) := by
  have h2 : ((L.drop b).take (l.length - b))[0]? = some (S l[b]) := by rw [h]; simp [hb]
  rw [List.getElem?_take_of_lt (by omega), List.getElem?_drop] at h2
  simpa using h2
theorem rest1_on {l : List (List UInt8)} {L : List Value} {b : Nat} (h : (L.drop b).take (l.length - b) = (l.drop b).map S) : (L.drop (b + 1)).take (l.length - (b + 1)) = (l.drop (b + 1)).map S := by
  have h2 := congrArg (List.drop 1) h
  rw [List.drop_take, List.drop_drop, ← List.map_drop, List.drop_drop] at h2
  rw [← h2]
  congr 1
section
variable {P : Program}
theorem wpList_clear_1 {w : World} {ops : Array Oper} {rest : List Oper} {o : Oper} {a : Act} {Q : Exit → Act → World → Prop} (hgd : o.guard = none) (s : Operand) (t : TypeId)
    (ho : o.op = .call { callee := .builtin .clear, args := #[s], argTypes := #[t] }) (e : TypeId) (i0 : TypeInfo) (z : Value) (ht : P.underlying t = some (.slice e)) (hi : P.info? e = some i0) (hz : i0.zero = some z) (hk : z.cells.size = 1) (h1 : ∀ v ∈ z.cells, v.oneCell' = true)
    (g off n c : Nat) (hs : a.eval s = .slice (some ⟨g, off, none⟩) n c) (cur : List Value) (et : TypeId) (hg : w.heap[g]? = some (.cells cur.toArray et (0, 0))) (hfit : off + n ≤ cur.length) (B : Nat) (w0 : World) (hb : Below B w0 w) (hBg : B ≤ g)
    (h : ∀ w' zs, zs.length = n → Hid (w'.heap[g]? = some (.cells (splice cur off zs).toArray et (0, 0))) → Below B w0 w' → wpList P ops Q rest (a.put o.dst (.tuple #[])) w') :
    wpList P ops Q (o :: rest) a w :=
  wpList_clear_k 1 hgd s t ho e i0 z ht hi hz hk h1 g off n c hs cur et hg (by omega) (by decide) B w0 hb hBg (fun w' zs hl => h w' zs (by omega))
end

theorem delInfoStr : (Tryz.prog.info? 9).map (fun i => (i.zero, i.size, i.bytes)) = some (some (.string ⟨#[]⟩), 1, 16) := by kernel_rfl

set_option maxHeartbeats 2000000 in
set_option maxRecDepth 100000 in
theorem idxStr_walk (g0 : Nat) (caps : Array Value) (p : (List UInt8) → Bool) (a : Option Addr) (c : Nat) (l : List (List UInt8)) (w : World) (hr : StrRow w (.slice a l.length c) l) (hcnt : l.length ≤ 1100000)
    (hen : ∀ args w, (callFunc g0 args).run Tryz.prog w = .ok (.enter g0 args) w)
    (hp : ∀ x w', Below w.heap.size w w' → Calls Tryz.prog g0 (#[S x] ++ caps) w' fun e w'' => e = .returned (.bool (p x)) ∧ Below w'.heap.size w' w'') :
    Calls Tryz.prog 83 #[.slice a l.length c, .func (.func g0) #[] caps] w fun e w' => e = .returned (.int .i64 (idxP p l)) ∧ Below w.heap.size w w' := by
  obtain ⟨a', c', hv, hc, hm, hx⟩ := hr
  cases hv
  have HX := Lib.hid hx
  have HP := Lib.hid hp
  clear hx hp
  go_enter Tryz.func83, Tryz.ntmps83
  go_wp2
  go_loopw [8] (fun i wr => ∃ k : Nat, k ≤ l.length ∧ i = .int .i64 k ∧ (∀ x ∈ l.take k, p x = false) ∧ Below w.heap.size w wr) (fun i _ => l.length - (intOf i).toNat)
  case atStart => exact ⟨0, Nat.zero_le _, rfl, by simp, Below.refl _ _⟩
  case round =>
    obtain ⟨k, hk, rfl, hall, hB⟩ := hrel
    have HALL := Lib.hid hall
    have HB := Lib.hid hB
    clear hall
    by_cases h1 : k < l.length
    · have hx := HX.out
      rcases hx with hx | ⟨b, o, rfl, hx⟩
      · exfalso; rw [hx] at h1; simp at h1
      have hx1 := str_cell hx h1
      have HE := Lib.hid (fun h => idxP_at h1 HALL.out h)
      have HN := Lib.hid (fun h => none_step h1 HALL.out h)
      clear hx
      generalize l[k] = y at *
      have CL := fun w' h => HP.out y w' h
      obtain ⟨qb, hqb⟩ : ∃ qb, p y = qb := ⟨_, rfl⟩
      rw [hqb] at CL HE HN
      clear hqb
      have hc1 := cell_below hB hx1; clear hx1
      have h1' : (k : Int) < (l.length : Int) := by omega
      have CL2 := CL wr hB
      clear hB CL
      cases qb with
      | true =>
        have HF := Lib.hid (HE.out rfl)
        clear HE HN
        go_wp2_with (refine CL2.mono ?_; rintro e w1 ⟨rfl, hb1⟩)
        go_ret
        exact ⟨by rw [HF.out]; rfl, below_chain HB.out hb1 HB.out.size⟩
      | false =>
        have HF := Lib.hid (HN.out rfl)
        clear HE HN
        go_wp2_with (refine CL2.mono ?_; rintro e w1 ⟨rfl, hb1⟩)
        go_roundw
        case rel => exact ⟨k + 1, by omega, by go_num, HF.out, below_chain HB.out hb1 HB.out.size⟩
        case measure => simp [intOf]; omega
    · have h1' : ¬ (k : Int) < (l.length : Int) := by omega
      have HF := Lib.hid (show idxP p l = -1 from idxP_none (by have := HALL.out; rwa [List.take_of_length_le (by omega)] at this))
      go_wp2
      go_ret
      exact ⟨by rw [HF.out]; rfl, HB.out⟩

set_option maxHeartbeats 4000000 in
set_option maxRecDepth 100000 in
theorem delStr_walk (g0 : Nat) (caps : Array Value) (p : (List UInt8) → Bool) (B : Nat) (v : Value) (l : List (List UInt8)) (w : World) (hown : w.ownsRow B 9 1 v l.length (l.map S)) (hcnt : l.length ≤ 1100000) (hB : B ≤ w.heap.size)
    (hen : ∀ args w, (callFunc g0 args).run Tryz.prog w = .ok (.enter g0 args) w) (hrg : StrRow w v l)
    (hp : ∀ x w', Below B w w' → Calls Tryz.prog g0 (#[S x] ++ caps) w' fun e w'' => e = .returned (.bool (p x)) ∧ Below w'.heap.size w' w'') :
    Calls Tryz.prog 58 #[v, .func (.func g0) #[] caps] w fun e w' => ∃ v', e = .returned v' ∧ w'.ownsRow B 9 1 v' (l.filter (fun x => !p x)).length ((l.filter (fun x => !p x)).map S) ∧ Below B w w' := by
  obtain ⟨i0, hi0, hz0, hz1, hz2⟩ := info_parts delInfoStr
  obtain ⟨av, cv, rfl, _, hcm, hxx⟩ := hrg
  have CI := idxStr_walk g0 caps p av cv l w ⟨av, cv, rfl, by assumption, hcm, hxx⟩ hcnt hen (fun x w' h => hp x w' (h.mono hB))
  have HOWN := Lib.hid hown
  have HP := Lib.hid hp
  have hown2 := hown.2
  clear hxx hown hp
  rcases idxP_cases p l with ⟨e1, hall⟩ | ⟨k0, hk0, e1, hall, hpk⟩
  · have HF := Lib.hid (filter_all hall)
    rw [e1] at CI
    clear hall e1 hown2
    go_enter Tryz.func58, Tryz.ntmps58
    go_wp2_with (go_at_call 83; refine (CI).mono ?_; rintro e w1 ⟨rfl, hb1⟩)
    go_ret
    refine ⟨_, rfl, ?_, hb1.mono hB⟩
    rw [HF.out]
    obtain ⟨hl, ho⟩ := HOWN.out
    refine ⟨hl, ?_⟩
    rcases ho with ⟨h1, h2⟩ | ⟨g, cap, cur, h1, h2, h3, h4⟩
    · exact .inl ⟨h1, h2⟩
    · refine .inr ⟨g, cap, cur, h1, h2, (hb1.block g ?_).trans h3, h4⟩
      exact (HOWN.out.lt g (by rw [h1]; rfl)).2
  · rw [e1] at CI
    rcases hown2 with ⟨h1, h2⟩ | ⟨g, cap, cur0, hv, hbg, hg, hnc, hcapm, hcs, htake⟩
    · exfalso; omega
    cases hv
    rw [Nat.mul_one] at hcs htake
    have hgw : g < w.heap.size := (HOWN.out.lt g rfl).2
    have hcl0 := HOWN.out.1
    have HK0 := Lib.hid (show (l.take (k0 + 1)).filter (fun x => !p x) = l.take k0 by
      rw [filter_step hk0, hpk, filter_all hall]; simp)
    have HD0 := Lib.hid (rest1_start htake (k0 + 1))
    have HT0 := Lib.hid (head1_start htake (b := k0) (by omega))
    clear hall hpk e1 htake HOWN hcl0
    have hkm : ((k0 : Int) == -1) = false := by rw [beq_eq_false_iff_ne]; omega
    go_enter Tryz.func58, Tryz.ntmps58
    go_wp2_with (go_at_call 83; refine (CI).mono ?_; rintro e w1 ⟨rfl, hb1⟩)
    have hg1 := (hb1.block g hgw).trans hg
    have hB1 := hb1.mono hB
    clear hb1 hg CI
    go_loopw [5, 6] (fun i j wr => ∃ (a b : Nat) (cur : Array Value), a < b ∧ b ≤ l.length ∧ i = .int .i64 a ∧ j = .int .i64 b ∧ wr.heap[g]? = some (.cells cur 9 (0, 0)) ∧ cur.size = cv ∧ ((l.take b).filter (fun x => !p x)).length = a ∧ cur.toList.take (a) = ((l.take b).filter (fun x => !p x)).map S ∧ (cur.toList.drop (b)).take ((l.length - b)) = (l.drop b).map S ∧ Below B w wr) (fun _ j _ => l.length - (intOf j).toNat)
    case atStart => exact ⟨k0, k0 + 1, cur0, by omega, by omega, by go_num, by go_num, hg1, hcs, by rw [HK0.out, List.length_take]; omega, by rw [HK0.out]; exact HT0.out, HD0.out, hB1⟩
    case round =>
      obtain ⟨a1, b1, cur, hab, hbl, rfl, rfl, hg2, hcs2, hfl, hft, hfd, hBw⟩ := hrel
      have HFL := Lib.hid hfl
      have HFT := Lib.hid hft
      have HFD := Lib.hid hfd
      have hszw := hBw.size
      have hgl := heap_lt hg2
      have hB2 : B ≤ wr.heap.size := by omega
      by_cases h1 : b1 < l.length
      · have hcel := rest1_at h1 hfd
        have HON := Lib.hid (rest1_on hfd)
        have HST := Lib.hid (filter_step (p := p) h1)
        clear hfl hft hfd
        generalize l[b1] = y at *
        obtain ⟨qb, hqb⟩ : ∃ qb, p y = qb := ⟨_, rfl⟩
        have CL := fun w' h => HP.out y w' h
        rw [hqb] at CL HST
        clear hqb
        have hc1 := heap_cell hg2 (j := b1) (v := S y) (by simpa using hcel)
        have CL2 := CL wr hBw
        clear CL hcel
        have h1' : (b1 : Int) < (l.length : Int) := by omega
        cases qb with
        | true =>
          have HS := Lib.hid (show (l.take (b1 + 1)).filter (fun x => !p x) = (l.take b1).filter (fun x => !p x) by rw [HST.out]; simp)
          clear HST
          go_wp2_with (refine CL2.mono ?_; rintro e w2 ⟨rfl, hb2⟩)
          have hg3 := heap_later hg2 hb2 (by omega)
          have hb3 : Below B w w2 := hBw.trans (hb2.mono (by omega))
          clear hb2
          go_roundw
          case rel => exact ⟨a1, b1 + 1, cur, by omega, by omega, rfl, by go_num, hg3, hcs2, by rw [HS.out]; exact HFL.out, by rw [HS.out]; exact HFT.out, HON.out, hb3⟩
          case measure => simp [intOf]; omega
        | false =>
          have HS := Lib.hid (show (l.take (b1 + 1)).filter (fun x => !p x) = (l.take b1).filter (fun x => !p x) ++ [y] by rw [HST.out]; simp)
          clear HST
          have hab2 : (a1 : Int) < (l.length : Int) := by omega
          go_wp2_with (refine CL2.mono ?_; rintro e w2 ⟨rfl, hb2⟩; have hg3 := heap_later hg2 hb2 (by omega); have hf1 := heap_free hg3; obtain ⟨u1, hu1⟩ := heap_has hg3 (j := a1) (by omega))
          have hb3 : Below B w w2 := hBw.trans (hb2.mono (by omega))
          clear hb2
          go_roundw
          case rel =>
            have hsp : (cur.setIfInBounds a1 (S y)).toList = splice cur.toList a1 [S y] := by
              have := setAll_splice [S y] cur a1 (by simp; omega); simpa [setAll] using this
            refine ⟨a1 + 1, b1 + 1, cur.setIfInBounds a1 (S y), by omega, by omega, by go_num, by go_num, heap_set_cell hg3 _, by simpa using hcs2, ?_, ?_, ?_, hb3.setCell hbg _⟩
            · rw [HS.out, List.length_append, HFL.out]; rfl
            · rw [HS.out, List.map_append, ← HFT.out, hsp, show a1 + 1 = a1 + ([S y] : List Value).length from rfl, take_splice (by simp; omega)]; simp
            · rw [hsp, drop_splice (by simp; omega) (by simp; omega)]; exact HON.out
          case measure => simp [intOf]; omega
      · obtain rfl : b1 = l.length := by omega
        have h1' : ¬ (l.length : Int) < (l.length : Int) := by omega
        rw [List.take_of_length_le (Nat.le_refl _)] at hfl hft
        have HFL := Lib.hid hfl
        have HFT := Lib.hid hft
        clear hfl hft hfd
        have hcv : ¬ cv = a1 := by omega
        have hab2 : (a1 : Int) ≤ (l.length : Int) := by omega
        have HG2 := Lib.hid (show wr.heap[g]? = some (.cells cur.toList.toArray 9 (0, 0)) by simpa using hg2)
        have HFIT := Lib.hid (show a1 + (l.length - a1) ≤ cur.toList.length by simp; omega)
        have HZ1 := Lib.hid (show ∀ v ∈ (.string ⟨#[]⟩ : Value).cells, v.oneCell' = true by decide)
        have HZ0 := Lib.hid (show (.string ⟨#[]⟩ : Value).cells.size = 1 by rfl)
        go_wp2_with (with_reducible refine wpList_clear_1 rfl (.tmp 38) 38 rfl 9 i0 (.string ⟨#[]⟩) Tryz.underlying38 hi0 hz0 HZ0.out HZ1.out g a1 (l.length - a1) (cv - a1) rfl cur.toList 9 HG2.out HFIT.out B w hBw hbg ?_)
        intro w2 zs hzl hg3 hb3
        go_wp2
        go_ret
        refine ⟨_, rfl, ⟨by simp, .inr ⟨g, cv, _, by rw [HFL.out]; rfl, hbg, hg3.out, ?_, hcm, ?_, ?_⟩⟩, hb3⟩
        · rw [HFL.out]; omega
        · rw [List.size_toArray, length_splice _ _ _ (by simp; omega)]; simpa using hcs2
        · rw [Nat.mul_one, HFL.out, List.toList_toArray, ← HFT.out]
          unfold splice
          rw [List.take_append_of_le_length (by simp; omega), List.take_take, Nat.min_self]
end Go.Proofs.YtkejdbidomlonaaGreatDoor
