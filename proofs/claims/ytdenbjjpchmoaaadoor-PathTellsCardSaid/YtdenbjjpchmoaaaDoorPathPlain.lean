/- Plain laws of paths: the directory by the last slash, parts and joins. -/
import Derived.Test.YtdenbjjpchmoaaaDoorPlain
import Derived.Lib.LastIndexByte
namespace Go.Proofs.YtdenbjjpchmoaaaDoor

theorem partsL_snoc : ∀ (a t : List UInt8), (∀ c ∈ t, c ≠ 47) → partsL (a ++ 47 :: t) = partsL a ++ [t]
  | [], t, h => by
    show partsL (47 :: t) = [[]] ++ [t]
    rw [partsL, if_pos rfl, partsL_noslash t h]; rfl
  | c :: a, t, h => by
    have ih := partsL_snoc a t h
    show partsL (c :: (a ++ 47 :: t)) = _
    rw [partsL, partsL]
    by_cases hc : c = 47
    · rw [if_pos hc, if_pos hc, ih]; rfl
    · rw [if_neg hc, if_neg hc, ih]
      cases hp : partsL a with
      | nil => exact absurd hp (partsL_ne a)
      | cons p ps => rfl

theorem joinS_cons (c : UInt8) (p : List UInt8) (ps : List (List UInt8)) : joinS ((c :: p) :: ps) = c :: joinS (p :: ps) := by
  cases ps <;> rfl
theorem joinS_nil (ps : List (List UInt8)) (h : ps ≠ []) : joinS ([] :: ps) = 47 :: joinS ps := by
  cases ps with
  | nil => exact absurd rfl h
  | cons p ps => rfl

theorem joinS_parts : ∀ l : List UInt8, joinS (partsL l) = l
  | [] => rfl
  | c :: t => by
    have ih := joinS_parts t
    unfold partsL
    split
    · rename_i h; rw [joinS_nil _ (partsL_ne t), ih, h]
    · cases hp : partsL t with
      | nil => exact absurd hp (partsL_ne t)
      | cons p ps => rw [hp] at ih; show joinS ((c :: p) :: ps) = _; rw [joinS_cons, ih]

theorem fitB_iff (l : List UInt8) : fitB l = true ↔ (partsL l).length ≤ 8 ∧ (partsL l).all nameB = true := by
  unfold fitB splitL
  have := List.length_pos_iff.2 (partsL_ne l)
  split <;> simp_all
theorem splitL_fit {l : List UInt8} (h : fitB l = true) : splitL l = partsL l := by
  unfold splitL; rw [if_pos ((fitB_iff l).1 h)]
theorem splitL_unfit {l : List UInt8} (h : fitB l = false) : splitL l = [] := by
  unfold fitB at h; simpa using h

theorem dirL_unfit {l : List UInt8} (h : fitB l = false) : dirL l = [] := by
  unfold dirL; rw [splitL_unfit h]; rfl
theorem dirL_noslash {l : List UInt8} (h : ∀ c ∈ l, c ≠ 47) : dirL l = [] := by
  unfold dirL splitL
  rw [partsL_noslash l h]
  split <;> rfl
theorem nameB_nil : nameB [] = false := rfl
theorem dirL_slash {a t : List UInt8} (h : ∀ c ∈ t, c ≠ 47) (hf : fitB (a ++ 47 :: t) = true) : dirL (a ++ 47 :: t) = a ∧ a ≠ [] := by
  have hp := partsL_snoc a t h
  have hs := splitL_fit hf
  obtain ⟨h1, h2⟩ := (fitB_iff _).1 hf
  have hl := List.length_pos_iff.2 (partsL_ne a)
  rw [hp] at h1 h2 hs
  rw [List.all_append, Bool.and_eq_true] at h2
  simp only [List.length_append, List.length_cons, List.length_nil] at h1
  constructor
  · unfold dirL
    rw [hs, if_neg (by simp; omega)]
    have : (partsL a ++ [t]).take ((partsL a ++ [t]).length - 1) = partsL a := by simp
    rw [this]
    unfold joinL
    rw [if_pos ⟨by omega, h2.1⟩, joinS_parts]
  · rintro rfl
    simp [partsL, nameB_nil] at h2

/-- The last slash. -/
theorem lastSlash (l : List UInt8) :
    (Lib.lastIndexByte ⟨l.toArray⟩ 47 = -1 ∧ ∀ c ∈ l, c ≠ 47) ∨
    (∃ i : Nat, ∃ h : i < l.length, Lib.lastIndexByte ⟨l.toArray⟩ 47 = i ∧ l = l.take i ++ 47 :: l.drop (i + 1) ∧ ∀ c ∈ l.drop (i + 1), c ≠ 47) := by
  have hne : ∀ j (hj : j < l.length), ((((⟨l.toArray⟩ : ByteArray).data[j]!).toNat : Int) ≠ 47) → l[j] ≠ 47 := by
    intro j hj h e
    apply h
    rw [getElem!_pos (⟨l.toArray⟩ : ByteArray).data j (by simpa using hj)]
    simp [e]
  rcases Lib.lastIndexByte_spec ⟨l.toArray⟩ 47 with ⟨h1, h2⟩ | ⟨i, hi, h1, h2, h3⟩
  · refine .inl ⟨h1, fun c hc => ?_⟩
    obtain ⟨j, hj, rfl⟩ := List.mem_iff_getElem.1 hc
    exact hne j hj (h2 j hj)
  · have hi' : i < l.length := hi
    refine .inr ⟨i, hi', h1, ?_, ?_⟩
    · have : l[i] = 47 := by
        rw [getElem!_pos (⟨l.toArray⟩ : ByteArray).data i (by simpa using hi')] at h2
        apply UInt8.toNat_inj.1
        simp at h2 ⊢; omega
      rw [← this, ← List.drop_eq_getElem_cons hi', List.take_append_drop]
    · intro c hc
      obtain ⟨j, hj, rfl⟩ := List.mem_iff_getElem.1 hc
      rw [List.getElem_drop]
      simp at hj
      exact hne _ (by omega) (h3 _ (by omega) (by show _ < l.length; omega))
end Go.Proofs.YtdenbjjpchmoaaaDoor
