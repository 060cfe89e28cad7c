/- The reference's reading of a node: plain laws. -/
import Derived.Test.YtnnjgokaabaaoaaDoorR11d
import Derived.Test.YtnnjgokaabaaoaaDoorPNode11
namespace Go.Proofs.YtnnjgokaabaaoaaDoor
open Go.RowKit

/-- An entry as the reference reads it: a byte of eight and more is none. -/
def entQ (s : List UInt8) : Option (Ent × List UInt8) := match entR s with | none => none | some (e, t) => if e.2.1 < 8 then some (e, t) else none
theorem rentp_rd {s : List UInt8} {x : Ent} {r : List UInt8} {ok : Bool} (h : REntP s x r ok) : RdP (entQ s) true x r ok := by
  refine ⟨fun h => (by cases h), fun _ => ?_⟩
  cases ok with
  | true =>
    obtain ⟨h1, h2⟩ := h.1 rfl
    have h3 : entQ s = some (x, r) := by unfold entQ; rw [h1]; simp only; rw [if_pos h2]
    rw [h3]
    exact ⟨rfl, rfl, rfl⟩
  | false =>
    have h3 : entQ s = none := by
      unfold entQ
      cases hq : entR s with
      | none => rfl
      | some q =>
        obtain ⟨e, t⟩ := q
        have := h.2 rfl e t hq
        simp only
        rw [if_neg (by omega)]
    rw [h3]
theorem entQ_some {s r : List UInt8} {e : Ent} (h : entQ s = some (e, r)) : entR s = some (e, r) := by
  unfold entQ at h
  cases hq : entR s with
  | none => rw [hq] at h; cases h
  | some q =>
    obtain ⟨e', t⟩ := q
    rw [hq] at h
    simp only at h
    split at h
    · exact h
    · cases h
theorem manyQ_some : ∀ (n : Nat) (s r : List UInt8) (l : List Ent), manyR entQ n s = some (l, r) → manyR entR n s = some (l, r)
  | 0, s, r, l, h => h
  | n + 1, s, r, l, h => by
    unfold manyR at h ⊢
    cases h1 : entQ s with
    | none => rw [h1] at h; cases h
    | some q =>
      obtain ⟨x, s1⟩ := q
      rw [h1] at h
      rw [entQ_some h1]
      simp only at h ⊢
      cases h2 : manyR entQ n s1 with
      | none => rw [h2] at h; cases h
      | some q =>
        obtain ⟨l2, s2⟩ := q
        rw [h2] at h
        rw [manyQ_some n s1 s2 l2 h2]
        exact h
theorem entOk_no {e : Ent} (h : ¬ e.2.1 < 8) : entOk e = false := by
  unfold entOk
  rw [Bool.and_eq_false_iff]
  left
  rw [Bool.or_eq_false_iff, Bool.and_eq_false_iff, beq_eq_false_iff_ne, beq_eq_false_iff_ne]
  exact ⟨by omega, .inl (by omega)⟩
theorem manyQ_none : ∀ (n : Nat) (s r : List UInt8) (l : List Ent), manyR entQ n s = none → manyR entR n s = some (l, r) → ∃ e ∈ l, entOk e = false
  | 0, s, r, l, h, _ => by cases h
  | n + 1, s, r, l, h, hr => by
    unfold manyR at h hr
    cases h1 : entR s with
    | none => rw [h1] at hr; cases hr
    | some q =>
      obtain ⟨x, s1⟩ := q
      rw [h1] at hr
      simp only at hr
      cases h2 : manyR entR n s1 with
      | none => rw [h2] at hr; cases hr
      | some q =>
        obtain ⟨l2, s2⟩ := q
        rw [h2] at hr
        simp only [Option.some.injEq, Prod.mk.injEq] at hr
        obtain ⟨rfl, rfl⟩ := hr
        by_cases h8 : x.2.1 < 8
        · have h3 : entQ s = some (x, s1) := by unfold entQ; rw [h1]; simp only; rw [if_pos h8]
          rw [h3] at h
          simp only at h
          cases h4 : manyR entQ n s1 with
          | none =>
            obtain ⟨e, he, hk⟩ := manyQ_none n s1 s2 l2 h4 h2
            exact ⟨e, List.mem_cons_of_mem _ he, hk⟩
          | some q => rw [h4] at h; cases h
        · exact ⟨x, List.mem_cons_self .., entOk_no h8⟩

/-! What Read answers. -/
theorem rd_none {s : List UInt8} (h : parseN s = none) : readN s = (zNod, 2) := by unfold readN; rw [h]
theorem rd_unfit {s r : List UInt8} {n : Nod} (h : parseN s = some (n, r)) (hf : fitN n = false) : readN s = (zNod, 2) := by
  unfold readN; rw [h]; simp only; rw [if_neg (by rw [hf]; simp)]
theorem rd_yes {s r : List UInt8} {n : Nod} (h : parseN s = some (n, r)) (hf : fitN n = true) (hw : writeN n = s) : readN s = (n, 0) := by
  unfold readN; rw [h]; simp only; rw [if_pos ⟨(readN_some h (fitN_iff.1 hf)).2 hw, hf⟩]
theorem rd_no {s r : List UInt8} {n : Nod} (h : parseN s = some (n, r)) (hw : fitN n = false ∨ writeN n ≠ s) : readN s = (zNod, 2) := by
  rcases hw with hf | hw
  · exact rd_unfit h hf
  · by_cases hf : fitN n = true
    · unfold readN; rw [h]; simp only; rw [if_neg (fun e => hw ((readN_some h (fitN_iff.1 hf)).1 e.1))]
    · exact rd_unfit h (by simpa using hf)
/-- What Read knows of a node ahead of its last test. -/
def RdEnd (s : List UInt8) (n : Nod) : Prop :=
  (fitN n = true → writeN n = s → readN s = (n, 0)) ∧ (fitN n = false → readN s = (zNod, 2)) ∧ (writeN n ≠ s → readN s = (zNod, 2))
theorem RdEnd.of {s r : List UInt8} {n : Nod} (h : parseN s = some (n, r)) : RdEnd s n := ⟨rd_yes h, fun hf => rd_no h (.inl hf), fun hw => rd_no h (.inr hw)⟩
theorem RdEnd.odd {s : List UInt8} {n : Nod} (h : parseN s = none) (hf : fitN n = false) : RdEnd s n :=
  ⟨fun e => absurd e (by rw [hf]; simp), fun _ => rd_none h, fun _ => rd_none h⟩
theorem fitN_odd {k : Nat} {d : List UInt8} {ps : List Prt} {es : List Ent} (h1 : k ≠ 1) (h2 : k ≠ 2) (h3 : k ≠ 3) : fitN ⟨k, d, ps, es⟩ = false :=
  fitN_no (by rintro (⟨h, _⟩ | ⟨h, _⟩ | ⟨h, _⟩) <;> simp only at h <;> omega)
theorem end_one {c : UInt8} {t : List UInt8} (h : c.toNat = 1) : RdEnd (c :: t) ⟨1, t, [], []⟩ := RdEnd.of (r := []) (by rw [parseN_cons, if_pos h])
theorem end_two {c : UInt8} {t s1 sk : List UInt8} {n k : Nat} {l : List Prt} (h : c.toNat = 2) (hn : numR 1024 t = some (n, s1)) (hs : SevP partR n s1 true k l sk true) (hk : n ≤ k) : RdEnd (c :: t) ⟨2, [], l, []⟩ := by
  have h1 := (SevP.end_ (s := t) (ok := true) (ok1 := true) ⟨fun h => (by cases h), fun _ => by rw [hn]; exact ⟨rfl, rfl, rfl⟩⟩ hs (.inr hk)).2 rfl
  have h2 : listR partR t = some (l, sk) := by
    cases hq : listR partR t with
    | none => rw [hq] at h1; cases h1
    | some q => obtain ⟨a, b⟩ := q; rw [hq] at h1; obtain ⟨_, rfl, rfl⟩ := h1; rfl
  exact RdEnd.of (r := sk) (by rw [parseN_cons, if_neg (by omega), if_pos h, h2])
theorem no_two {c : UInt8} {t s1 sk : List UInt8} {n k : Nat} {l : List Prt} (h : c.toNat = 2) (hn : numR 1024 t = some (n, s1)) (hs : SevP partR n s1 true k l sk false) : readN (c :: t) = (zNod, 2) := by
  have h1 := hs.2 rfl
  rw [if_neg (by simp)] at h1
  refine rd_none ?_
  rw [parseN_cons, if_neg (by omega), if_pos h]
  unfold listR
  rw [hn]
  simp only
  rw [h1]
theorem no_num {c : UInt8} {t : List UInt8} (h : c.toNat ≠ 1) (hn : numR 1024 t = none) : readN (c :: t) = (zNod, 2) := by
  refine rd_none ?_
  rw [parseN_cons, if_neg h, show listR partR t = none by unfold listR; rw [hn], show listR entR t = none by unfold listR; rw [hn]]
  simp only
  split
  · rfl
  · split <;> rfl
theorem end_ent {c : UInt8} {t s1 sk : List UInt8} {n k : Nat} {l : List Ent} (h1 : c.toNat ≠ 1) (h2 : c.toNat ≠ 2) (hn : numR 1024 t = some (n, s1)) (hs : SevP entQ n s1 true k l sk true) (hk : n ≤ k) : RdEnd (c :: t) ⟨(c.toNat : Int), [], [], l⟩ := by
  by_cases h3 : c.toNat = 3
  · have e1 := hs.2 rfl
    rw [if_pos rfl, show n - k = 0 by omega] at e1
    have e2 : manyR entQ n s1 = some (l, sk) := by rw [e1]; simp [appR, manyR]
    have e3 := manyQ_some _ _ _ _ e2
    refine RdEnd.of (r := sk) ?_
    rw [parseN_cons, if_neg h1, if_neg h2, if_pos h3, h3]
    unfold listR
    rw [hn]
    simp only
    rw [e3]
    rfl
  · exact RdEnd.odd (by rw [parseN_cons, if_neg h1, if_neg h2, if_neg h3]) (fitN_odd h1 h2 h3)
theorem no_ent {c : UInt8} {t s1 sk : List UInt8} {n k : Nat} {l : List Ent} (h1 : c.toNat ≠ 1) (h2 : c.toNat ≠ 2) (hn : numR 1024 t = some (n, s1)) (hs : SevP entQ n s1 true k l sk false) : readN (c :: t) = (zNod, 2) := by
  by_cases h3 : c.toNat = 3
  · have e1 := hs.2 rfl
    rw [if_neg (by simp)] at e1
    have hl : listR entR t = manyR entR n s1 := by unfold listR; rw [hn]
    cases hq : manyR entR n s1 with
    | none => exact rd_none (by rw [parseN_cons, if_neg h1, if_neg h2, if_pos h3, hl, hq])
    | some q =>
      obtain ⟨L, r⟩ := q
      refine rd_unfit (r := r) (n := ⟨3, [], [], L⟩) (by rw [parseN_cons, if_neg h1, if_neg h2, if_pos h3, hl, hq]) ?_
      obtain ⟨e, he, hk⟩ := manyQ_none _ _ _ _ e1 hq
      refine fitN_no ?_
      rintro (⟨h, _⟩ | ⟨h, _⟩ | ⟨_, _, _, hd⟩)
      · simp at h
      · simp at h
      · have := hd.ok e he
        rw [hk] at this
        cases this
  · exact rd_none (by rw [parseN_cons, if_neg h1, if_neg h2, if_neg h3])
theorem end_small {s1 sk : List UInt8} {n k : Nat} {l : List Ent} (hs : SevP entQ n s1 true k l sk true) (hk : n ≤ k) : ∀ e ∈ l, e.1.length ≤ s1.length := by
  have e1 := hs.2 rfl
  rw [if_pos rfl, show n - k = 0 by omega] at e1
  have e2 : manyR entQ n s1 = some (l, sk) := by rw [e1]; simp [appR, manyR]
  exact manyE_small _ _ _ _ (manyQ_some _ _ _ _ e2)
end Go.Proofs.YtnnjgokaabaaoaaDoor
