/- What was written is read. No program in sight. -/
import Derived.Test.YthjoaoakadaieaaFindPlain
namespace Go.Proofs.Ythjoaoakadaieaa

theorem act_err {d c : LD} {wrong e : Int} {fs : List LF} (h : actD d wrong fs = (c, e)) (he : e ≠ 0) : e = 13 ∨ c = d := by
  unfold actD at h
  split at h
  · cases h; exact .inl rfl
  · split at h
    · cases h; exact .inr rfl
    · split at h
      · cases h; exact .inl rfl
      · cases h; exact absurd rfl he
theorem fileOf_seen (d : LD) (n : List UInt8) : seenL (fileOf d n).2.1 (fileOf d n).2.2 = (readD d n).1 := by
  unfold fileOf readD
  cases findF d.1 n <;> rfl
theorem readD_eq {d c : LD} {n : List UInt8} (h : findF d.1 n = findF c.1 n) : readD d n = readD c n := by unfold readD; rw [h]
theorem fileOf_name (d : LD) (n : List UInt8) : (fileOf d n).1 = n := by
  unfold fileOf
  cases h : findF d.1 n with
  | none => rfl
  | some f => exact (find_mem h).2
theorem write_read {d c : LD} {n s : List UInt8} {k : Nat} (h : writeD d n k s = (c, 0)) :
    readD c n = (if s = [] then (readD d n).1 else layD (readD d n).1 k s, true) ∧ ∀ m, m ≠ n → readD d m = readD c m := by
  unfold writeD at h
  obtain ⟨h1, _, _, _⟩ := act_ok h
  have hn : (putOps (fileOf d n) k s).1 = n := by
    unfold putOps
    split
    · exact fileOf_name d n
    · exact fileOf_name d n
  refine ⟨?_, fun m hm => readD_eq ?_⟩
  · rw [readD_some (f := putOps (fileOf d n) k s) (by rw [h1, find_with, if_pos hn])]
    unfold putOps
    split
    · rw [fileOf_seen]
    · unfold seenL
      simp only [List.foldl_append, List.foldl_cons, List.foldl_nil]
      have := fileOf_seen d n
      unfold seenL at this
      rw [this]
      rfl
  · rw [h1, find_with, if_neg (by rw [hn]; exact fun e => hm e.symm)]
theorem not_was {d : LD} {n : List UInt8} (h : (readD d n).2 = false) : (readD d n).1 = [] := by
  unfold readD at *
  cases hf : findF d.1 n with
  | none => rfl
  | some f => rw [hf] at h; cases h
theorem layD_cut (s : List UInt8) (k : Nat) (t : List UInt8) : ((layD s k t).drop k).take t.length = t := by
  have hl : ((s ++ zerosL (k - s.length)).take k).length = k := by simp [zerosL]; omega
  unfold layD
  rw [List.drop_append, hl, Nat.sub_self, List.drop_zero, List.drop_eq_nil_of_le (by omega), List.nil_append, List.take_left]
theorem layD_out (s : List UInt8) (k : Nat) (t : List UInt8) {i : Nat} (hi : i < (layD s k t).length) (ho : i < k ∨ k + t.length ≤ i) : (∃ h : i < s.length, (layD s k t)[i] = s[i]) ∨ (s.length ≤ i ∧ (layD s k t)[i] = 0) := by
  have hl : ((s ++ zerosL (k - s.length)).take k).length = k := by simp [zerosL]; omega
  have hlen := layD_len s k t
  have h9 : (layD s k t)[i]? = some (layD s k t)[i] := List.getElem?_eq_getElem hi
  rcases ho with ho | ho
  · have h1 : (layD s k t)[i]? = (s ++ zerosL (k - s.length))[i]? := by
      unfold layD
      rw [List.getElem?_append_left (by omega), List.getElem?_take_of_lt ho]
    by_cases hs : i < s.length
    · rw [List.getElem?_append_left hs, h9, List.getElem?_eq_getElem hs] at h1
      exact .inl ⟨hs, Option.some.inj h1⟩
    · rw [List.getElem?_append_right (by omega), h9] at h1
      unfold zerosL at h1
      rw [List.getElem?_replicate, if_pos (by omega)] at h1
      exact .inr ⟨by omega, Option.some.inj h1⟩
  · have hs : i < s.length := by omega
    have h1 : (layD s k t)[i]? = s[i]? := by
      unfold layD
      rw [List.getElem?_append_right (by omega), hl, List.getElem?_append_right (by omega), List.getElem?_drop]
      congr 1; omega
    rw [h9, List.getElem?_eq_getElem hs] at h1
    exact .inl ⟨hs, Option.some.inj h1⟩
/-- What is read behind a write. -/
structure BackR (old t s : List UInt8) (k : Nat) : Prop where
  len : s ≠ [] → t.length = max old.length (k + s.length)
  cut : s ≠ [] → (t.drop k).take s.length = s
  same : s = [] → t = old
  out : ∀ i (h : i < t.length), i < k ∨ k + s.length ≤ i → (∃ h2 : i < old.length, t[i] = old[i]) ∨ (old.length ≤ i ∧ t[i] = 0)
theorem back_reads {d c : LD} {n s : List UInt8} {k : Nat} (h : writeD d n k s = (c, 0)) : ∃ t, readD c n = (t, true) ∧ BackR (readD d n).1 t s k := by
  refine ⟨_, (write_read h).1, ?_⟩
  split
  · rename_i hs
    exact ⟨fun hh => absurd hs hh, fun hh => absurd hs hh, fun _ => rfl, fun i hi _ => .inl ⟨hi, rfl⟩⟩
  · rename_i hs
    exact ⟨fun _ => layD_len _ _ _, fun _ => layD_cut _ _ _, fun hh => absurd hh hs, fun i hi ho => layD_out _ _ _ hi ho⟩
end Go.Proofs.Ythjoaoakadaieaa
