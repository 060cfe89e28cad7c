/- Which collections can be; they stay so: plain. -/
import Derived.Test.YtengciicdnkgaaaGreatDoorReachPlain
import Derived.Test.YtengciicdnkgaaaGreatDoorJGcP
namespace Go.Proofs.YtengciicdnkgaaaGreatDoor

def fitG (on : Bool) (q m : List (List UInt8)) : Bool := fit5 m && ((on || (q.isEmpty && m.isEmpty)) && (q.all (fun x => decide (x ∈ m)) && decide q.Nodup))
theorem fitG_iff {on : Bool} {q m : List (List UInt8)} : fitG on q m = true ↔ fit5 m = true ∧ (on = true ∨ (q = [] ∧ m = [])) ∧ (∀ x ∈ q, x ∈ m) ∧ q.Nodup := by
  unfold fitG
  simp only [Bool.and_eq_true, Bool.or_eq_true, List.isEmpty_iff, List.all_eq_true, decide_eq_true_eq]
theorem upS_tail {x : List UInt8} {l : List (List UInt8)} (h : upS (x :: l)) : upS l := by
  unfold upS at *
  exact (List.pairwise_cons.1 h).2
theorem upN_of : ∀ {l : List (List UInt8)}, upS l → upN l = true
  | [], _ => rfl
  | [_], _ => rfl
  | a :: b :: t, h => by
    unfold upN
    rw [Bool.and_eq_true, decide_eq_true_eq]
    refine ⟨?_, upN_of (upS_tail h)⟩
    unfold upS at h
    exact (List.pairwise_cons.1 h).1 b (by simp)
theorem fit5_of {l : List (List UInt8)} (hu : upS l) (h : ∀ x ∈ l, x.length = 32) : fit5 l = true := fit5_all h (upN_of hu)
theorem fit5_32 {l : List (List UInt8)} (h : fit5 l = true) : ∀ x ∈ l, x.length = 32 := by
  unfold fit5 at h
  rw [Bool.and_eq_true, List.all_eq_true] at h
  intro x hx
  simpa using h.1 x hx
/-- What stays of a collection that is on. -/
structure FInv (s : QM) : Prop where
  up : upS s.2
  len : ∀ x ∈ s.2, x.length = 32
  sub : ∀ x ∈ s.1, x ∈ s.2
  nd : s.1.Nodup
theorem FInv.of_fit {on : Bool} {q m : List (List UInt8)} (h : fitG on q m = true) : FInv (q, m) := by
  obtain ⟨h1, _, h3, h4⟩ := fitG_iff.1 h
  exact ⟨fit5_upP h1, fit5_32 h1, h3, h4⟩
theorem FInv.fit {s : QM} (h : FInv s) : fitG true s.1 s.2 = true := fitG_iff.2 ⟨fit5_of h.up h.len, .inl rfl, h.sub, h.nd⟩
theorem FInv.le {s : QM} (h : FInv s) : s.1.length ≤ s.2.length := nodup_len _ _ h.nd h.sub
theorem FInv.note {s : QM} {k : List UInt8} (h : FInv s) : FInv (noteQ true s.1 s.2 k, noteM true s.2 k) := by
  refine ⟨noteM_upL h.up, fun x hx => ?_, fun x hx => note_sub h.sub hx, ?_⟩
  · rcases note_mem.1 hx with h1 | ⟨_, h1⟩
    · exact h.len x h1
    · exact h1
  · unfold noteQ
    split
    · rename_i hc
      rw [List.nodup_append]
      exact ⟨h.nd, by simp, fun a ha b hb => by rw [List.mem_singleton.1 hb]; rintro rfl; exact hc.2.2 (h.sub _ ha)⟩
    · exact h.nd
theorem FInv.notes : ∀ (l : List (List UInt8)) {q m : List (List UInt8)}, FInv (q, m) → FInv (notesS q m l)
  | [], _, _, h => h
  | k :: l, q, m, h => FInv.notes l (q := noteQ true q m k) (m := noteM true m k) h.note
theorem FInv.next {o : List Snp} {s : QM} (h : FInv s) : FInv (nextS o s) := by
  obtain ⟨q, m⟩ := s
  cases q with
  | nil => exact h
  | cons k q =>
    rw [nextS_cons]
    exact FInv.notes _ ⟨h.up, h.len, fun x hx => h.sub x (List.mem_cons_of_mem _ hx), (List.nodup_cons.1 h.nd).2⟩
theorem FInv.steps {o : List Snp} : ∀ (n : Nat) {s : QM}, FInv s → FInv (stepS o n s)
  | 0, _, h => h
  | n + 1, _, h => FInv.steps n h.next
theorem next_in {o : List Snp} {s : QM} (hu : upS s.2) (hs : ∀ x ∈ s.1, x ∈ s.2) {x : List UInt8} (h : x ∈ (nextS o s).2) : x ∈ s.2 ∨ x ∈ allK o := by
  obtain ⟨q, m⟩ := s
  cases q with
  | nil => exact .inl h
  | cons k q =>
    rw [nextS_cons] at h
    rcases ((notes_all (kidsO o k) q m hu (fun x hx => hs x (List.mem_cons_of_mem _ hx))).1 x).1 h with h1 | ⟨h1, _⟩
    · exact .inl h1
    · exact .inr (kidsO_mem h1)
theorem steps_in {o : List Snp} : ∀ (n : Nat) {s : QM}, FInv s → ∀ x ∈ (stepS o n s).2, x ∈ s.2 ∨ x ∈ allK o
  | 0, _, _, x, h => .inl h
  | n + 1, s, hf, x, h => by
    rcases steps_in n (s := nextS o s) hf.next x h with h1 | h1
    · exact next_in hf.up hf.sub h1
    · exact .inr h1
theorem steps_few {o : List Snp} {n : Nat} {s : QM} (hf : FInv s) : 32 * (stepS o n s).2.length ≤ 32 * s.2.length + rawsL o ∧ (stepS o n s).1.length ≤ (stepS o n s).2.length := by
  have h1 := nodup_len _ (s.2 ++ allK o) (up_nodup (hf.steps (o := o) n).up) (fun x hx => List.mem_append.2 (steps_in n hf x hx))
  have h2 := allK_len o
  rw [List.length_append] at h1
  exact ⟨by omega, (hf.steps n).le⟩

theorem noteQ_len' (on : Bool) (q m : List (List UInt8)) (k : List UInt8) : (noteQ on q m k).length ≤ q.length + 1 := by
  unfold noteQ; split <;> simp
theorem noteM_len' (on : Bool) (m : List (List UInt8)) (k : List UInt8) : (noteM on m k).length ≤ m.length + 1 := by
  unfold noteM; split
  · exact addL_len m k
  · omega
theorem fitG_note {on : Bool} {q m : List (List UInt8)} {k : List UInt8} (h : fitG on q m = true) : fitG on (noteQ on q m k) (noteM on m k) = true := by
  cases on with
  | true => exact (FInv.of_fit h).note.fit
  | false =>
    have e1 : noteQ false q m k = q := if_neg (fun h => by cases h.1)
    have e2 : noteM false m k = m := if_neg (fun h => by cases h.1)
    rw [e1, e2]; exact h
theorem fitG_steps {on : Bool} {q m : List (List UInt8)} {o : List Snp} {n : Nat} (h : fitG on q m = true) : fitG on (stepS o n (q, m)).1 (stepS o n (q, m)).2 = true := by
  cases on with
  | true => exact ((FInv.of_fit h).steps n).fit
  | false =>
    rcases (fitG_iff.1 h).2.1 with h1 | ⟨h1, _⟩
    · cases h1
    · rw [stepS_nil (s := (q, m)) h1]; exact h
theorem fitG_on {on : Bool} {q m : List (List UInt8)} (h : fitG on q m = true) : on = true ∨ q = [] := (fitG_iff.1 h).2.1.imp id (fun h => h.1)
theorem fitG_set (l : List (List UInt8)) : fitG true (setOf l) (setOf l) = true := fitG_iff.2 ⟨fit5_of (setOf_up l) (fun _ hx => (setOf_mem.1 hx).2), .inl rfl, fun _ h => h, up_nodup (setOf_up l)⟩

/-! As the program tells it: sorted, without repeats, as many. -/
/-- A list that has as many as a set within it has none twice. -/
theorem nodup_of_len : ∀ (l a : List (List UInt8)), a.Nodup → (∀ x ∈ a, x ∈ l) → l.length ≤ a.length → l.Nodup
  | [], _, _, _, _ => List.nodup_nil
  | x :: l, a, hn, hs, hl => by
    have hx : x ∈ a := by
      refine Classical.byContradiction fun hx => ?_
      have := nodup_len a l hn (fun y hy => by
        rcases List.mem_cons.1 (hs y hy) with rfl | h
        · exact absurd hy hx
        · exact h)
      rw [List.length_cons] at hl
      omega
    have hxl : x ∉ l := fun hxl => by
      have := nodup_len a l hn (fun y hy => by
        rcases List.mem_cons.1 (hs y hy) with rfl | h
        · exact hxl
        · exact h)
      rw [List.length_cons] at hl
      omega
    refine List.nodup_cons.2 ⟨hxl, nodup_of_len l (a.erase x) (hn.erase x) (fun y hy => ?_) ?_⟩
    · rcases List.mem_cons.1 (hs y (List.mem_of_mem_erase hy)) with rfl | h
      · exact absurd hy (fun h => by have := (List.Nodup.mem_erase_iff hn).1 h; exact this.1 rfl)
      · exact h
    · rw [List.length_erase_of_mem hx]
      rw [List.length_cons] at hl
      omega
theorem sorted_compact {l : List (List UInt8)} : (Lib.compact (l.mergeSort fun x y => decide (x ≤ y))).length = l.length ↔ l.Nodup := by
  obtain ⟨h1, h2⟩ := compact_inv (sort_le l) _ (Nat.le_refl _)
  have hm : ∀ x, x ∈ Lib.compact (l.mergeSort fun x y => decide (x ≤ y)) ↔ x ∈ l := fun x => by
    unfold Lib.compact
    rw [h2, List.take_length, List.mem_mergeSort]
  have hu : (Lib.compact (l.mergeSort fun x y => decide (x ≤ y))).Nodup := up_nodup h1
  constructor
  · intro h
    refine nodup_of_len l _ hu (fun x hx => (hm x).1 hx) (Nat.le_of_eq h.symm)
  · intro h
    exact Nat.le_antisymm (nodup_len _ _ hu (fun x hx => (hm x).1 hx)) (nodup_len _ _ h (fun x hx => (hm x).2 hx))
end Go.Proofs.YtengciicdnkgaaaGreatDoor
