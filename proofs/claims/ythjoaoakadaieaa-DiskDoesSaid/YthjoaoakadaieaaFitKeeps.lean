/- Acts keep a disk fit. No program in sight. -/
import Derived.Test.YthjoaoakadaieaaSorted
import Derived.Test.YthjoaoakadaieaaDiskPlain
namespace Go.Proofs.Ythjoaoakadaieaa

structure FitP (d : LD) : Prop where
  len : d.1.length ≤ 8
  up : upS (d.1.map (·.1))
  ok : ∀ f ∈ d.1, badF f = false
  f1 : -1 ≤ d.2.2
  f2 : d.2.2 ≤ 1048576
  off : d.2.1 = true → d.2.2 = -1
theorem fitP_of {d : LD} (h : fitD d = true) : FitP d := by
  simp only [fitD, Bool.and_eq_true, Bool.not_eq_true'] at h
  obtain ⟨h1, h2, h3⟩ := h
  simp only [headBad, Bool.or_eq_false_iff, decide_eq_false_iff_not, Bool.and_eq_false_iff, bne_eq_false_iff_eq] at h1
  obtain ⟨g1, g2, g3, g4⟩ := h1
  refine ⟨by omega, upN_pairs _ h2, fun f hf => by simpa using List.any_eq_false.1 h3 f hf, by omega, by omega, fun ho => ?_⟩
  rcases g4 with g4 | g4
  · rw [ho] at g4; cases g4
  · exact g4
theorem FitP.fit {d : LD} (h : FitP d) : fitD d = true := by
  simp only [fitD, Bool.and_eq_true, Bool.not_eq_true']
  refine ⟨?_, upN_of_pairs _ h.up, List.any_eq_false.2 fun f hf => by simpa using h.ok f hf⟩
  simp only [headBad, Bool.or_eq_false_iff, decide_eq_false_iff_not, Bool.and_eq_false_iff, bne_eq_false_iff_eq]
  have := h.len; have := h.f1; have := h.f2
  refine ⟨by omega, by omega, by omega, ?_⟩
  cases ho : d.2.1
  · exact .inl rfl
  · exact .inr (h.off ho)

theorem withF_mem {l : List LF} {f x : LF} (h : x ∈ withF l f) : x = f ∨ x ∈ l := by
  unfold withF withK at h
  rcases List.mem_append.1 h with h | h
  · exact .inr (List.mem_filter.1 h).1
  · rcases List.mem_cons.1 h with h | h
    · exact .inl h
    · exact .inr (List.mem_filter.1 h).1
theorem withF_len {l : List LF} {f : LF} (hu : upS (l.map (·.1))) : (withF l f).length ≤ l.length + 1 ∧ (f.1 ∈ l.map (·.1) → (withF l f).length ≤ l.length) := by
  unfold withF
  rw [withK_up (key := fun x : LF => x.1) hu]
  refine ⟨?_, fun hm => ?_⟩
  · split <;> simp <;> omega
  · rw [if_pos hm]
    obtain ⟨hk, _⟩ := pos_lt (key := fun x : LF => x.1) hu hm
    simp; omega
theorem find_mem {l : List LF} {n : List UInt8} {f : LF} (h : findF l n = some f) : f ∈ l ∧ f.1 = n := ⟨List.mem_of_find?_eq_some h, by have := List.find?_some h; simpa using this⟩
theorem find_mem' {l : List LF} {n : List UInt8} {f : LF} (h : findF l n = some f) : n ∈ l.map (·.1) := by
  obtain ⟨h1, h2⟩ := find_mem h
  exact List.mem_map.2 ⟨f, h1, h2⟩
theorem without_len {l : List LF} {n : List UInt8} {f : LF} (h : findF l n = some f) : (withoutF l n).length + 1 ≤ l.length := by
  obtain ⟨h1, h2⟩ := find_mem h
  have : (withoutF l n).length < l.length := by
    unfold withoutF withoutK
    exact List.length_filter_lt_length_iff_exists.2 ⟨f, h1, by simp [h2]⟩
  omega

theorem actD_fit {d : LD} {wrong : Int} {fs : List LF} (h : FitP d) (hw : wrong = 0 → fs.length ≤ 8 ∧ upS (fs.map (·.1)) ∧ ∀ f ∈ fs, badF f = false) : FitP (actD d wrong fs).1 := by
  unfold actD
  split
  · exact h
  · rename_i ho
    split
    · exact h
    · rename_i hz
      split
      · exact ⟨h.len, h.up, h.ok, by simp, by simp, fun _ => rfl⟩
      · rename_i hf
        obtain ⟨h1, h2, h3⟩ := hw (by simpa using hz)
        refine ⟨h1, h2, h3, ?_, ?_, fun ho' => absurd ho' ho⟩
        · show -1 ≤ (if 0 < d.2.2 then d.2.2 - 1 else d.2.2)
          have := h.f1; split <;> omega
        · show (if 0 < d.2.2 then d.2.2 - 1 else d.2.2) ≤ 1048576
          have := h.f2; split <;> omega
theorem fits_with {l : List LF} {f : LF} (hu : upS (l.map (·.1))) (hok : ∀ x ∈ l, badF x = false) (hf : badF f = false) (hl : (withF l f).length ≤ 8) : (withF l f).length ≤ 8 ∧ upS ((withF l f).map (·.1)) ∧ ∀ x ∈ withF l f, badF x = false :=
  ⟨hl, withK_up' (key := fun x : LF => x.1) hu, fun x hx => by rcases withF_mem hx with rfl | hx; · exact hf
                                                               · exact hok x hx⟩
theorem writeD_fit {d : LD} {n : List UInt8} {k : Int} {s : List UInt8} (h : FitP d) : FitP (writeD d n k s).1 := by
  unfold writeD
  refine actD_fit h fun hw => ?_
  unfold wrongW at hw
  split at hw
  · cases hw
  rename_i hn
  split at hw
  · cases hw
  rename_i hr
  split at hw
  · cases hw
  rename_i hm
  have hnm : nameB n = true := by simpa using hn
  have hfo : (fileOf d n).1 = n ∧ badF (fileOf d n) = false := by
    unfold fileOf
    cases hf : findF d.1 n with
    | none => exact ⟨rfl, by rw [Option.getD_none, badF_iff]; exact ⟨hnm, by simp, by simp, by simp⟩⟩
    | some f => exact ⟨(find_mem hf).2, h.ok f (find_mem hf).1⟩
  have hp : badF (putOps (fileOf d n) k s) = false ∧ (putOps (fileOf d n) k s).1 = n := by
    unfold putOps
    split
    · exact ⟨hfo.2, hfo.1⟩
    · rename_i hs
      refine ⟨?_, hfo.1⟩
      obtain ⟨q1, q2, q3, q4⟩ := (badF_iff _).1 hfo.2
      rw [badF_iff]
      refine ⟨q1, ?_, q3, ?_⟩
      · simp only [List.length_append, List.length_cons, List.length_nil]
        have : ¬ 200 ≤ (fileOf d n).2.2.length := fun hh => hm (.inr ⟨hs, hh⟩)
        omega
      · intro o ho
        rcases List.mem_append.1 ho with ho | ho
        · exact q4 o ho
        · simp at ho; subst ho
          rw [badO_iff]
          refine ⟨by simp only; omega, by simp only; omega, hs, by simp only; omega⟩
  refine fits_with h.up h.ok hp.1 ?_
  obtain ⟨g1, g2⟩ := withF_len (f := putOps (fileOf d n) k s) h.up
  have hl := h.len
  cases hf : findF d.1 n with
  | none =>
    have : ¬ 8 ≤ d.1.length := fun hh => hm (.inl ⟨by rw [hf]; rfl, hh⟩)
    omega
  | some f =>
    have := g2 (by rw [hp.2]; exact find_mem' hf)
    omega
theorem wrongN_some {d : LD} {n : List UInt8} (h : wrongN d n = 0) : ∃ f, findF d.1 n = some f := by
  unfold wrongN at h
  cases hf : findF d.1 n with
  | none => rw [hf] at h; simp at h
  | some f => exact ⟨f, rfl⟩
theorem readD_some {d : LD} {n : List UInt8} {f : LF} (h : findF d.1 n = some f) : readD d n = (seenL f.2.1 f.2.2, true) := by unfold readD; rw [h]
theorem readD_none {d : LD} {n : List UInt8} (h : findF d.1 n = none) : readD d n = ([], false) := by unfold readD; rw [h]
theorem syncD_fit {d : LD} {n : List UInt8} (h : FitP d) : FitP (syncD d n).1 := by
  unfold syncD
  refine actD_fit h fun hw => ?_
  obtain ⟨f, hf⟩ := wrongN_some hw
  obtain ⟨q1, q2, q3, q4⟩ := (badF_iff _).1 (h.ok f (find_mem hf).1)
  refine fits_with h.up h.ok ?_ ?_
  · rw [readD_some hf, badF_iff]
    exact ⟨by rw [(find_mem hf).2] at q1; exact q1, by simp, seenL_len q3 q4, by simp⟩
  · have := (withF_len (f := (n, (readD d n).1, [])) h.up).2 (find_mem' hf)
    have := h.len
    omega
theorem renameD_fit {d : LD} {n m : List UInt8} (h : FitP d) : FitP (renameD d n m).1 := by
  unfold renameD
  refine actD_fit h fun hw => ?_
  split at hw
  · cases hw
  rename_i hm
  obtain ⟨f, hf⟩ := wrongN_some hw
  obtain ⟨q1, q2, q3, q4⟩ := (badF_iff _).1 (h.ok f (find_mem hf).1)
  have hu : upS ((withoutF d.1 n).map (·.1)) := withoutK_up' (key := fun x : LF => x.1) h.up
  refine fits_with hu (fun x hx => h.ok x (List.mem_filter.1 hx).1) ?_ ?_
  · unfold fileOf
    rw [hf, Option.getD_some, badF_iff]
    exact ⟨by simpa using hm, q2, q3, q4⟩
  · have := (withF_len (f := (m, (fileOf d n).2)) hu).1
    have := without_len hf
    have := h.len
    omega
theorem removeD_fit {d : LD} {n : List UInt8} (h : FitP d) : FitP (removeD d n).1 := by
  unfold removeD
  refine actD_fit h fun hw => ?_
  have hl : (withoutF d.1 n).length ≤ d.1.length := List.length_filter_le _ _
  have := h.len
  exact ⟨by omega, withoutK_up' (key := fun x : LF => x.1) h.up, fun x hx => h.ok x (List.mem_filter.1 hx).1⟩
end Go.Proofs.Ythjoaoakadaieaa
