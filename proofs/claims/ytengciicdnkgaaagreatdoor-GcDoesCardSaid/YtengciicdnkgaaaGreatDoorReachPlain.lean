/- What is reached from keys on; a collection that comes to it: plain. -/
import Derived.Test.YtengciicdnkgaaaGreatDoorGcPlain
namespace Go.Proofs.YtengciicdnkgaaaGreatDoor

/-- The keys that bytes name. -/
noncomputable def kidsR (raw : List UInt8) : List (List UInt8) := if (readN raw).2 = 0 then kidsN (readN raw).1 else []
noncomputable def kidsO (o : List Snp) (k : List UInt8) : List (List UInt8) := kidsR (rootOf (findR o k))
/-- What is in each set that has the first ones and is closed. -/
def Reached (o : List Snp) (P : List UInt8 → Prop) (x : List UInt8) : Prop :=
  ∀ Q : List UInt8 → Prop, (∀ k, P k → Q k) → (∀ k y, Q k → y ∈ kidsO o k → Q y) → Q x
theorem Reached.seed {o : List Snp} {P : List UInt8 → Prop} {k : List UInt8} (h : P k) : Reached o P k := fun _ h1 _ => h1 k h
theorem Reached.next {o : List Snp} {P : List UInt8 → Prop} {k y : List UInt8} (h : Reached o P k) (hy : y ∈ kidsO o k) : Reached o P y := fun Q h1 h2 => h2 k y (h Q h1 h2) hy
theorem Reached.imp {o : List Snp} {P P' : List UInt8 → Prop} {x : List UInt8} (h : Reached o P x) (hp : ∀ k, P k → P' k) : Reached o P' x := fun Q h1 h2 => h Q (fun k hk => h1 k (hp k hk)) h2
theorem kidsN_32 {n : Nod} {x : List UInt8} (h : x ∈ kidsN n) : x.length = 32 := (setOf_mem.1 h).2
theorem kidsR_32 {raw x : List UInt8} (h : x ∈ kidsR raw) : x.length = 32 := by
  unfold kidsR at h
  split at h
  · exact kidsN_32 h
  · cases h
theorem kidsR_ok {raw : List UInt8} (h : (readN raw).2 = 0) : kidsR raw = kidsN (readN raw).1 := if_pos h
theorem kidsR_bad {raw : List UInt8} (h : (readN raw).2 ≠ 0) : kidsR raw = [] := if_neg h
theorem read_nil : (readN []).2 ≠ 0 := by simp [readN, parseN]
theorem kidsR_nil : kidsR [] = [] := kidsR_bad read_nil

/-! How many there are. -/
theorem flatB_len {α : Type} (f : α → List UInt8) (n : Nat) : ∀ (l : List α), (∀ x ∈ l, n ≤ (f x).length) → n * l.length ≤ (l.flatMap f).length
  | [], _ => by simp
  | x :: l, h => by
    have h1 := flatB_len f n l (fun y hy => h y (List.mem_cons_of_mem _ hy))
    have h2 := h x (by simp)
    rw [List.flatMap_cons, List.length_append, List.length_cons, Nat.mul_succ]
    omega
theorem write_len {n : Nod} (hf : FitN n) : 32 * (n.parts.length + n.ents.length) ≤ (writeN n).length := by
  have hw : writeN n = UInt8.ofNat n.kind.toNat :: bodyN n := if_pos (fitN_iff.2 hf)
  rw [hw, List.length_cons]
  rcases hf with ⟨h1, h2, h3, h4, h5⟩ | ⟨h1, h2, h3, h4⟩ | ⟨h1, h2, h3, h4⟩
  · rw [h4, h5]; simp
  · have hb : bodyN n = putV n.parts.length ++ n.parts.flatMap partW := by unfold bodyN; rw [if_neg (by omega), if_pos h1]
    have := flatB_len partW 32 n.parts (fun p hp => by
      have := h4.ok p hp
      unfold partOk at this
      rw [Bool.and_eq_true] at this
      have h5 := of_decide_eq_true (p := p.1.length = 32) (by simpa using this.1)
      unfold partW
      rw [List.length_append]; omega)
    rw [hb, h3, List.length_append]; simp only [List.length_nil]; omega
  · have hb : bodyN n = putV n.ents.length ++ n.ents.flatMap entW := by unfold bodyN; rw [if_neg (by omega), if_neg (by omega)]
    have := flatB_len entW 32 n.ents (fun p hp => by
      have h5 := (entOk_parts (h4.ok p hp)).2.1
      unfold entW
      rw [List.length_append]; omega)
    rw [hb, h3, List.length_append]; simp only [List.length_nil]; omega
theorem kidsR_len (raw : List UInt8) : 32 * (kidsR raw).length ≤ raw.length := by
  unfold kidsR
  split
  · rename_i h
    obtain ⟨h1, h2⟩ := read_ok (s := raw) (n := (readN raw).1) (by rw [← h])
    have h3 := write_len h1
    rw [h2] at h3
    have := kidsN_len (readN raw).1
    omega
  · simp
theorem kidsR_1084 (raw : List UInt8) : (kidsR raw).length ≤ 1084 := by
  unfold kidsR
  split
  · exact kids_bound (by assumption)
  · simp
/-- All keys that objects name. -/
noncomputable def allK (o : List Snp) : List (List UInt8) := o.flatMap (fun x => kidsR x.2)
theorem allK_len : ∀ (o : List Snp), 32 * (allK o).length ≤ rawsL o
  | [] => by simp [allK, rawsL]
  | x :: o => by
    have h1 := allK_len o
    have h2 := kidsR_len x.2
    unfold allK rawsL at *
    rw [List.flatMap_cons, List.length_append, List.map_cons, List.sum_cons]
    omega
theorem kidsO_mem {o : List Snp} {k x : List UInt8} (h : x ∈ kidsO o k) : x ∈ allK o := by
  unfold kidsO at h
  cases hf : findR o k with
  | none => rw [hf] at h; simp only [rootOf] at h; rw [kidsR_nil] at h; cases h
  | some r =>
    rw [hf] at h
    simp only [rootOf] at h
    unfold findR at hf
    rw [Option.map_eq_some_iff] at hf
    obtain ⟨y, hy, rfl⟩ := hf
    exact List.mem_flatMap.2 ⟨y, List.mem_of_find?_eq_some hy, h⟩
theorem Reached.mem {o : List Snp} {P : List UInt8 → Prop} {x : List UInt8} (h : Reached o P x) : P x ∨ x ∈ allK o :=
  h (fun x => P x ∨ x ∈ allK o) (fun _ h => .inl h) (fun _ _ _ hy => .inr (kidsO_mem hy))
theorem Reached.len {o : List Snp} {P : List UInt8 → Prop} {x : List UInt8} (h : Reached o P x) (hP : ∀ k, P k → k.length = 32) : x.length = 32 :=
  h (fun x => x.length = 32) hP (fun _ _ _ hy => kidsR_32 hy)
theorem nodup_len {α : Type} [DecidableEq α] : ∀ (a b : List α), a.Nodup → (∀ x ∈ a, x ∈ b) → a.length ≤ b.length
  | [], _, _, _ => Nat.zero_le _
  | x :: a, b, hn, h => by
    rw [List.nodup_cons] at hn
    have hx := h x (by simp)
    have h1 := nodup_len a (b.erase x) hn.2 (fun y hy => (List.mem_erase_of_ne (by rintro rfl; exact hn.1 hy)).2 (h y (List.mem_cons_of_mem _ hy)))
    rw [List.length_erase_of_mem hx] at h1
    have := List.length_pos_of_mem hx
    rw [List.length_cons]; omega
theorem up_nodup {l : List (List UInt8)} (h : upS l) : l.Nodup := by
  unfold upS at h
  exact h.imp fun {a b} (hab : a < b) e => by subst e; exact List.lt_irrefl _ hab

/-! Keys are told of, one by one. -/
theorem addL_one {m : List (List UInt8)} {k : List UInt8} (hu : upS m) (h : k ∉ m) : (addL m k).length = m.length + 1 := by
  have h2 := withK_up (key := (id : List UInt8 → List UInt8)) (l := m) (f := k) (by simpa using hu)
  unfold addL
  rw [if_neg h, h2]
  have := posL_le m k
  simp [h]; omega
theorem note_mem {m : List (List UInt8)} {k x : List UInt8} : x ∈ noteM true m k ↔ x ∈ m ∨ (x = k ∧ x.length = 32) := by
  unfold noteM
  split
  · rename_i h
    rw [addL_mem]
    constructor
    · rintro (rfl | h1)
      · exact .inr ⟨rfl, h.2.1⟩
      · exact .inl h1
    · rintro (h1 | ⟨rfl, _⟩)
      · exact .inr h1
      · exact .inl rfl
  · rename_i h
    constructor
    · exact .inl
    · rintro (h1 | ⟨rfl, h2⟩)
      · exact h1
      · exact Classical.byContradiction fun h3 => h ⟨rfl, h2, h3⟩
theorem note_q {q m : List (List UInt8)} {k x : List UInt8} (h : x ∈ q) : x ∈ noteQ true q m k := by
  unfold noteQ; split
  · exact List.mem_append.2 (.inl h)
  · exact h
theorem note_new {q m : List (List UInt8)} {k x : List UInt8} (h : x ∈ noteM true m k) : x ∈ m ∨ x ∈ noteQ true q m k := by
  unfold noteM at h; unfold noteQ
  split at h
  · rename_i hc
    rw [if_pos hc]
    rcases addL_mem.1 h with rfl | h
    · exact .inr (List.mem_append.2 (.inr (by simp)))
    · exact .inl h
  · exact .inl h
theorem note_sub {q m : List (List UInt8)} {k x : List UInt8} (hs : ∀ y ∈ q, y ∈ m) (h : x ∈ noteQ true q m k) : x ∈ noteM true m k := by
  unfold noteQ at h; unfold noteM
  split at h
  · rename_i hc
    rw [if_pos hc]
    rcases List.mem_append.1 h with h | h
    · exact addL_mem.2 (.inr (hs x h))
    · exact addL_mem.2 (.inl (List.mem_singleton.1 h))
  · rename_i hc
    rw [if_neg hc]; exact hs x h
theorem note_cnt {q m : List (List UInt8)} {k : List UInt8} (hu : upS m) : (noteM true m k).length + q.length = m.length + (noteQ true q m k).length := by
  unfold noteM noteQ
  by_cases h : true = true ∧ k.length = 32 ∧ k ∉ m
  · rw [if_pos h, if_pos h, addL_one hu h.2.2, List.length_append]; simp; omega
  · rw [if_neg h, if_neg h]
theorem notes_all : ∀ (l q m : List (List UInt8)), upS m → (∀ x ∈ q, x ∈ m) →
    (∀ x, x ∈ (notesS q m l).2 ↔ x ∈ m ∨ (x ∈ l ∧ x.length = 32)) ∧ (∀ x ∈ q, x ∈ (notesS q m l).1) ∧ (∀ x ∈ (notesS q m l).2, x ∈ m ∨ x ∈ (notesS q m l).1) ∧ (∀ x ∈ (notesS q m l).1, x ∈ (notesS q m l).2) ∧ (notesS q m l).2.length + q.length = m.length + (notesS q m l).1.length ∧ upS (notesS q m l).2
  | [], q, m, hu, hs => ⟨fun x => by simp [notesS], fun x h => h, fun x h => .inl h, hs, rfl, hu⟩
  | k :: l, q, m, hu, hs => by
    obtain ⟨h1, h2, h3, h4, h5, h6⟩ := notes_all l (noteQ true q m k) (noteM true m k) (noteM_upL hu) (fun x hx => note_sub hs hx)
    have hc := note_cnt (q := q) (k := k) hu
    have e : notesS q m (k :: l) = notesS (noteQ true q m k) (noteM true m k) l := rfl
    rw [e]
    refine ⟨fun x => ?_, fun x hx => h2 x (note_q hx), fun x hx => ?_, h4, by omega, h6⟩
    · rw [h1, note_mem, List.mem_cons]
      constructor
      · rintro ((h | ⟨rfl, h⟩) | ⟨h, h'⟩)
        · exact .inl h
        · exact .inr ⟨.inl rfl, h⟩
        · exact .inr ⟨.inr h, h'⟩
      · rintro (h | ⟨rfl | h, h'⟩)
        · exact .inl (.inl h)
        · exact .inl (.inr ⟨rfl, h'⟩)
        · exact .inr ⟨h, h'⟩
    · rcases h3 x hx with h | h
      · rcases note_new (q := q) h with h | h
        · exact .inl h
        · exact .inr (h2 x h)
      · exact .inr h

/-! A collection's state. -/
structure GInv (o : List Snp) (P : List UInt8 → Prop) (s : QM) : Prop where
  up : upS s.2
  sub : ∀ x ∈ s.1, x ∈ s.2
  seed : ∀ x, P x → x ∈ s.2
  snd : ∀ x ∈ s.2, Reached o P x
  clo : ∀ x ∈ s.2, x ∉ s.1 → ∀ y ∈ kidsO o x, y ∈ s.2
  le : s.1.length ≤ s.2.length
def seedP (l : List (List UInt8)) (x : List UInt8) : Prop := x ∈ l ∧ x.length = 32
theorem GInv.start (o : List Snp) (l : List (List UInt8)) : GInv o (seedP l) (setOf l, setOf l) :=
  ⟨setOf_up l, fun _ h => h, fun _ h => setOf_mem.2 h, fun _ h => Reached.seed (setOf_mem.1 h), fun _ h h2 => absurd h h2, Nat.le_refl _⟩
theorem GInv.note {o : List Snp} {l : List (List UInt8)} {k : List UInt8} {s : QM} (h : GInv o (seedP l) s) : GInv o (seedP (l ++ [k])) (noteQ true s.1 s.2 k, noteM true s.2 k) := by
  have hp : ∀ x, seedP l x → seedP (l ++ [k]) x := fun x hx => ⟨List.mem_append.2 (.inl hx.1), hx.2⟩
  refine ⟨noteM_upL h.up, fun x hx => note_sub h.sub hx, fun x hx => ?_, fun x hx => ?_, fun x hx hn y hy => ?_, by have := note_cnt (q := s.1) (k := k) h.up; have := h.le; simp only; omega⟩
  · rcases List.mem_append.1 hx.1 with h1 | h1
    · exact note_mem.2 (.inl (h.seed x ⟨h1, hx.2⟩))
    · exact note_mem.2 (.inr ⟨List.mem_singleton.1 h1, hx.2⟩)
  · rcases note_mem.1 hx with h1 | ⟨rfl, h2⟩
    · exact (h.snd x h1).imp hp
    · exact Reached.seed ⟨List.mem_append.2 (.inr (by simp)), h2⟩
  · rcases note_new (q := s.1) hx with h1 | h1
    · exact note_mem.2 (.inl (h.clo x h1 (fun h2 => hn (note_q h2)) y hy))
    · exact absurd h1 hn
theorem nextS_cons (o : List Snp) (k : List UInt8) (q m : List (List UInt8)) : nextS o (k :: q, m) = notesS q m (kidsO o k) := by
  have e : nextS o (k :: q, m) = if (readN (rootOf (findR o k))).2 = 0 then notesS q m (kidsN (readN (rootOf (findR o k))).1) else (q, m) := rfl
  rw [e]
  unfold kidsO kidsR
  split <;> rfl
theorem GInv.next {o : List Snp} {P : List UInt8 → Prop} {s : QM} (h : GInv o P s) : GInv o P (nextS o s) := by
  obtain ⟨q, m⟩ := s
  cases q with
  | nil => exact h
  | cons k q =>
    rw [nextS_cons]
    have hkm : k ∈ m := h.sub k (by simp)
    obtain ⟨h1, h2, h3, h4, h5, h6⟩ := notes_all (kidsO o k) q m h.up (fun x hx => h.sub x (List.mem_cons_of_mem _ hx))
    refine ⟨h6, h4, fun x hx => (h1 x).2 (.inl (h.seed x hx)), fun x hx => ?_, fun x hx hn y hy => ?_, by have := h.le; simp only [List.length_cons] at this; omega⟩
    · rcases (h1 x).1 hx with h7 | ⟨h7, _⟩
      · exact h.snd x h7
      · exact (h.snd k hkm).next h7
    · by_cases hxk : x = k
      · subst hxk
        exact (h1 y).2 (.inr ⟨hy, kidsR_32 hy⟩)
      · rcases h3 x hx with h7 | h7
        · refine (h1 y).2 (.inl (h.clo x h7 (fun h8 => ?_) y hy))
          rcases List.mem_cons.1 h8 with h9 | h9
          · exact hxk h9
          · exact hn (h2 x h9)
        · exact absurd h7 hn
theorem GInv.steps {o : List Snp} {P : List UInt8 → Prop} : ∀ (n : Nat) {s : QM}, GInv o P s → GInv o P (stepS o n s)
  | 0, _, h => h
  | n + 1, _, h => GInv.steps n h.next
theorem GInv.done {o : List Snp} {P : List UInt8 → Prop} {m : List (List UInt8)} (h : GInv o P ([], m)) (x : List UInt8) : x ∈ m ↔ Reached o P x :=
  ⟨h.snd x, fun hx => hx (fun y => y ∈ m) h.seed (fun k y hk hy => h.clo k hk (by simp) y hy)⟩
theorem next_cnt {o : List Snp} {s : QM} (hu : upS s.2) (hs : ∀ x ∈ s.1, x ∈ s.2) : s.2.length + (nextS o s).1.length + min 1 s.1.length = (nextS o s).2.length + s.1.length := by
  obtain ⟨q, m⟩ := s
  cases q with
  | nil => simp [nextS]
  | cons k q =>
    rw [nextS_cons]
    obtain ⟨_, _, _, _, h5, _⟩ := notes_all (kidsO o k) q m hu (fun x hx => hs x (List.mem_cons_of_mem _ hx))
    simp only [List.length_cons] at *
    omega
theorem steps_cnt {o : List Snp} {P : List UInt8 → Prop} : ∀ (n : Nat) {s : QM}, GInv o P s → s.2.length + (stepS o n s).1.length + min (min 1 n) s.1.length ≤ (stepS o n s).2.length + s.1.length
  | 0, s, h => by simp [stepS]
  | n + 1, s, h => by
    have h1 := next_cnt (o := o) h.up h.sub
    have h2 := steps_cnt n h.next
    rw [stepS]
    omega
/-- How many there can be. -/
theorem GInv.few {o : List Snp} {l : List (List UInt8)} {s : QM} (h : GInv o (seedP l) s) : 32 * s.2.length ≤ 32 * l.length + rawsL o := by
  have h1 := nodup_len s.2 (l ++ allK o) (up_nodup h.up) (fun x hx => by
    rcases (h.snd x hx).mem with h2 | h2
    · exact List.mem_append.2 (.inl h2.1)
    · exact List.mem_append.2 (.inr h2))
  have h2 := allK_len o
  rw [List.length_append] at h1
  omega
theorem GInv.nodup_few {o : List Snp} {P : List UInt8 → Prop} {q : List (List UInt8)} {l : List (List UInt8)} (hP : ∀ x, P x → x ∈ l) (hn : q.Nodup) (h : ∀ x ∈ q, Reached o P x) : 32 * q.length ≤ 32 * l.length + rawsL o := by
  have h1 := nodup_len q (l ++ allK o) hn (fun x hx => by
    rcases (h x hx).mem with h2 | h2
    · exact List.mem_append.2 (.inl (hP x h2))
    · exact List.mem_append.2 (.inr h2))
  have h2 := allK_len o
  rw [List.length_append] at h1
  omega

/-! A list that goes on by what it names (the reference). -/
def pushQ (q l : List (List UInt8)) : List (List UInt8) := l.foldl (fun q k => if k ∈ q then q else q ++ [k]) q
theorem pushQ_step {q l : List (List UInt8)} {j : Nat} (h : j < l.length) : pushQ q (l.take (j + 1)) = if l[j] ∈ pushQ q (l.take j) then pushQ q (l.take j) else pushQ q (l.take j) ++ [l[j]] := by
  unfold pushQ
  rw [List.take_succ_eq_append_getElem h, List.foldl_append]; rfl
theorem pushQ_all : ∀ (l q : List (List UInt8)), (∀ x, x ∈ pushQ q l ↔ x ∈ q ∨ x ∈ l) ∧ (q.Nodup → (pushQ q l).Nodup) ∧ q <+: pushQ q l
  | [], q => ⟨fun x => by simp [pushQ], fun h => h, List.prefix_refl _⟩
  | k :: l, q => by
    have e : pushQ q (k :: l) = pushQ (if k ∈ q then q else q ++ [k]) l := rfl
    rw [e]
    by_cases h : k ∈ q
    · rw [if_pos h]
      obtain ⟨h1, h2, h3⟩ := pushQ_all l q
      refine ⟨fun x => ?_, h2, h3⟩
      rw [h1, List.mem_cons]
      constructor
      · rintro (h4 | h4)
        · exact .inl h4
        · exact .inr (.inr h4)
      · rintro (h4 | rfl | h4)
        · exact .inl h4
        · exact .inl h
        · exact .inr h4
    · rw [if_neg h]
      obtain ⟨h1, h2, h3⟩ := pushQ_all l (q ++ [k])
      refine ⟨fun x => ?_, fun hn => h2 ?_, (List.prefix_append q [k]).trans h3⟩
      · rw [h1, List.mem_append, List.mem_singleton, List.mem_cons]
        constructor
        · rintro ((h4 | rfl) | h4)
          · exact .inl h4
          · exact .inr (.inl rfl)
          · exact .inr (.inr h4)
        · rintro (h4 | rfl | h4)
          · exact .inl (.inl h4)
          · exact .inl (.inr rfl)
          · exact .inr h4
      · rw [List.nodup_append]
        exact ⟨hn, by simp, fun a ha b hb => by rw [List.mem_singleton.1 hb]; rintro rfl; exact h ha⟩
theorem pushQ_len (l q : List (List UInt8)) : (pushQ q l).length ≤ q.length + l.length := by
  induction l generalizing q with
  | nil => exact Nat.le_refl _
  | cons k l ih =>
    have h := ih (if k ∈ q then q else q ++ [k])
    have h2 : (if k ∈ q then q else q ++ [k]).length ≤ q.length + 1 := by split <;> simp
    show (pushQ (if k ∈ q then q else q ++ [k]) l).length ≤ _
    rw [List.length_cons]; omega
theorem pushQ_take {q l : List (List UInt8)} {i : Nat} (h : i ≤ q.length) : (pushQ q l).take i = q.take i := by
  obtain ⟨_, _, ⟨t, ht⟩⟩ := pushQ_all l q
  rw [← ht, List.take_append_of_le_length h]
/-- Where the reference's loop stands: the first i have been looked at. -/
structure RInv (o : List Snp) (P : List UInt8 → Prop) (q : List (List UInt8)) (i : Nat) : Prop where
  nd : q.Nodup
  seed : ∀ x, P x → x ∈ q
  snd : ∀ x ∈ q, Reached o P x
  clo : ∀ x ∈ q.take i, ∀ y ∈ kidsO o x, y ∈ q
theorem RInv.start (o : List Snp) (l : List (List UInt8)) : RInv o (seedP l) (setOf l) 0 :=
  ⟨up_nodup (setOf_up l), fun _ h => setOf_mem.2 h, fun _ h => Reached.seed (setOf_mem.1 h), by simp⟩
theorem RInv.push {o : List Snp} {P : List UInt8 → Prop} {q : List (List UInt8)} {i : Nat} (h : RInv o P q i) (hi : i < q.length) : RInv o P (pushQ q (kidsO o q[i])) (i + 1) ∧ q.length ≤ (pushQ q (kidsO o q[i])).length := by
  obtain ⟨h1, h2, ⟨t, ht⟩⟩ := pushQ_all (kidsO o q[i]) q
  have hl : q.length ≤ (pushQ q (kidsO o q[i])).length := by rw [← ht, List.length_append]; omega
  refine ⟨⟨h2 h.nd, fun x hx => (h1 x).2 (.inl (h.seed x hx)), fun x hx => ?_, fun x hx y hy => ?_⟩, hl⟩
  · rcases (h1 x).1 hx with h3 | h3
    · exact h.snd x h3
    · exact (h.snd _ (List.getElem_mem hi)).next h3
  · rw [← ht, List.take_append_of_le_length (by omega), List.take_succ_eq_append_getElem hi, List.mem_append, List.mem_singleton] at hx
    rcases hx with hx | rfl
    · exact (h1 y).2 (.inl (h.clo x hx y hy))
    · exact (h1 y).2 (.inr hy)
theorem RInv.skip {o : List Snp} {P : List UInt8 → Prop} {q : List (List UInt8)} {i : Nat} (h : RInv o P q i) (hi : i < q.length) (hk : kidsO o q[i] = []) : RInv o P q (i + 1) := by
  have := (h.push hi).1
  rw [hk] at this
  exact this
/-- Whether the bytes of a key are there and are a node's. -/
noncomputable def okO (o : List Snp) (k : List UInt8) : Bool := (findR o k).isSome && ((readN (rootOf (findR o k))).2 == 0)
theorem okO_no {o : List Snp} {k : List UInt8} (h : okO o k = false) : kidsO o k = [] := by
  unfold okO at h
  unfold kidsO
  cases hf : findR o k with
  | none => exact kidsR_nil
  | some r =>
    rw [hf] at h
    refine kidsR_bad fun h2 => ?_
    rw [h2] at h; simp at h
theorem okO_yes {o : List Snp} {k : List UInt8} (h : okO o k = true) : (findR o k).isSome = true ∧ (readN (rootOf (findR o k))).2 = 0 ∧ kidsO o k = kidsN (readN (rootOf (findR o k))).1 := by
  unfold okO at h
  rw [Bool.and_eq_true, beq_iff_eq] at h
  exact ⟨h.1, h.2, kidsR_ok h.2⟩
theorem all_step {f : List UInt8 → Bool} {q : List (List UInt8)} {i : Nat} (h : i < q.length) : (q.take (i + 1)).all f = ((q.take i).all f && f q[i]) := by
  rw [List.take_succ_eq_append_getElem h, List.all_append]; simp
theorem RInv.done {o : List Snp} {P : List UInt8 → Prop} {q : List (List UInt8)} {i : Nat} (h : RInv o P q i) (hi : q.length ≤ i) (x : List UInt8) : x ∈ q ↔ Reached o P x :=
  ⟨h.snd x, fun hx => hx (fun y => y ∈ q) h.seed (fun k y hk hy => h.clo k (by rw [List.take_of_length_le hi]; exact hk) y hy)⟩
end Go.Proofs.YtengciicdnkgaaaGreatDoor
