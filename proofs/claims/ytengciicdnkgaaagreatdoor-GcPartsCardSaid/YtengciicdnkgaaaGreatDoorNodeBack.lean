/- A node's bytes are read as it. No program in sight. -/
import Derived.Test.YtengciicdnkgaaaGreatDoorNodePlain
namespace Go.Proofs.YtengciicdnkgaaaGreatDoor

theorem cutR_app {a : List UInt8} {n : Nat} (h : a.length = n) (r : List UInt8) : cutR n (a ++ r) = some (a, r) := by
  unfold cutR
  rw [if_neg (by rw [List.length_append]; omega), List.take_append_of_le_length (by omega), List.take_of_length_le (by omega), List.drop_append_of_le_length (by omega), List.drop_of_length_le (by omega)]
  rfl
theorem numR_put {n m : Nat} (h : n ≤ m) (hm : m < 2 ^ 64) (r : List UInt8) : numR m (putV n ++ r) = some (n, r) := by
  unfold numR
  rw [takeV_put (by omega)]
  simp only
  rw [if_neg (by simp; omega)]
  simp
theorem textR_put {t : List UInt8} (h : t.length ≤ 65536) (r : List UInt8) : textR (putText t ++ r) = some (t, r) := by
  unfold textR
  rw [takeText_put h]
  simp
theorem partR_put {p : Prt} (h : partOk p = true) (r : List UInt8) : partR (partW p ++ r) = some (p, r) := by
  obtain ⟨k, z⟩ := p
  unfold partOk at h
  simp only [Bool.and_eq_true, beq_iff_eq, decide_eq_true_eq] at h
  unfold partR partW
  simp only
  rw [List.append_assoc, cutR_app h.1]
  simp only
  rw [numR_put (n := z.toNat) (by omega) (by omega)]
  simp only
  rw [show ((z.toNat : Nat) : Int) = z by omega]
theorem entOk_parts {e : Ent} (h : entOk e = true) : (e.2.1 = 2 ∨ e.2.1 = 3 ∧ e.2.2.1 = false) ∧ e.2.2.2.length = 32 ∧ nameB e.1 = true := by
  unfold entOk at h
  simp only [Bool.and_eq_true, Bool.or_eq_true, beq_iff_eq, Bool.not_eq_true'] at h
  exact ⟨h.1, h.2.1, h.2.2⟩
theorem entR_put {e : Ent} (h : entOk e = true) (r : List UInt8) : entR (entW e ++ r) = some (e, r) := by
  obtain ⟨hk, hl, hn⟩ := entOk_parts h
  obtain ⟨t, k, x, key⟩ := e
  simp only at hk hl hn
  have hb : (kindB (kindW (t, k, x, key)) : Int) = k ∧ execB (kindW (t, k, x, key)) = x := by
    rcases hk with rfl | ⟨rfl, rfl⟩
    · cases x
      · rw [show kindW (t, 2, false, key) = 2 from rfl]; exact ⟨by decide, by decide⟩
      · rw [show kindW (t, 2, true, key) = 6 from rfl]; exact ⟨by decide, by decide⟩
    · rw [show kindW (t, 3, false, key) = 3 from rfl]; exact ⟨by decide, by decide⟩
  unfold entR
  have e1 : entW (t, k, x, key) ++ r = putText t ++ (kindW (t, k, x, key) :: (key ++ r)) := by simp [entW]
  rw [e1, textR_put (by have := nameB_len hn; omega)]
  simp only
  rw [cutR_app hl]
  simp only
  rw [hb.1, hb.2]
theorem manyR_put {α : Type} {rd : List UInt8 → Option (α × List UInt8)} {wr : α → List UInt8} {ok : α → Prop} (hr : ∀ x r, ok x → rd (wr x ++ r) = some (x, r)) :
    ∀ (l : List α) (r : List UInt8), (∀ x ∈ l, ok x) → manyR rd l.length (l.flatMap wr ++ r) = some (l, r)
  | [], r, _ => rfl
  | x :: l, r, h => by
    rw [List.length_cons, List.flatMap_cons, List.append_assoc]
    unfold manyR
    rw [hr x _ (h x List.mem_cons_self)]
    simp only
    rw [manyR_put hr l r (fun y hy => h y (List.mem_cons_of_mem _ hy))]
theorem listR_put {α : Type} {rd : List UInt8 → Option (α × List UInt8)} {wr : α → List UInt8} {ok : α → Prop} (hr : ∀ x r, ok x → rd (wr x ++ r) = some (x, r))
    {l : List α} (hl : l.length ≤ 1024) (h : ∀ x ∈ l, ok x) : listR rd (putV l.length ++ l.flatMap wr) = some (l, []) := by
  unfold listR
  rw [numR_put hl (by decide)]
  simp only
  have := manyR_put hr l [] h
  rwa [List.append_nil] at this
theorem parse_write {n : Nod} (hf : FitN n) : parseN (writeN n) = some (n, []) := by
  unfold writeN
  rw [if_pos (fitN_iff.2 hf)]
  obtain ⟨k, d, ps, es⟩ := n
  rcases hf with ⟨h1, h2, h3, h4, h5⟩ | ⟨h1, h2, h3, h4⟩ | ⟨h1, h2, h3, h4⟩
  · simp only at h1 h4 h5
    subst h1 h4 h5
    rfl
  · simp only at h1 h2 h3 h4
    subst h1 h2 h3
    unfold bodyN
    simp only
    rw [if_neg (by decide), if_pos trivial]
    show parseN (UInt8.ofNat 2 :: _) = _
    rw [parseN_cons, if_neg (by decide), if_pos (by decide), listR_put (ok := fun p => partOk p = true) (fun x r h => partR_put h r) h4.len h4.ok]
  · simp only at h1 h2 h3 h4
    subst h1 h2 h3
    unfold bodyN
    simp only
    rw [if_neg (by decide), if_neg (by decide)]
    show parseN (UInt8.ofNat 3 :: _) = _
    rw [parseN_cons, if_neg (by decide), if_neg (by decide), if_pos (by decide), listR_put (ok := fun e => entOk e = true) (fun x r h => entR_put h r) (by have := h4.len; omega) h4.ok]
theorem read_write {n : Nod} (hf : FitN n) : readN (writeN n) = (n, 0) := by
  unfold readN
  rw [parse_write hf]
  simp only
  rw [if_pos (by simp [fitN_iff.2 hf])]
theorem read_ok {s : List UInt8} {n : Nod} (h : readN s = (n, 0)) : FitN n ∧ writeN n = s := by
  unfold readN at h
  cases hp : parseN s with
  | none => rw [hp] at h; cases h
  | some q =>
    obtain ⟨m, r⟩ := q
    rw [hp] at h
    simp only at h
    split at h
    · rename_i hc
      cases h
      have hf := fitN_iff.1 hc.2
      exact ⟨hf, (readN_some hp hf).1 hc.1⟩
    · cases h
theorem read_or (s : List UInt8) : (∃ n, readN s = (n, 0)) ∨ readN s = (zNod, 2) := by
  unfold readN
  cases parseN s with
  | none => exact .inr rfl
  | some q =>
    obtain ⟨m, r⟩ := q
    simp only
    split
    · exact .inl ⟨_, rfl⟩
    · exact .inr rfl
end Go.Proofs.YtengciicdnkgaaaGreatDoor
