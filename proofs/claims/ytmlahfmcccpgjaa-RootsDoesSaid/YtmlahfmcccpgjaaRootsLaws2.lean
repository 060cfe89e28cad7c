/- More laws of trees that are kept, in plain lists: two that come in either order; records, there and back. -/
import Derived.Test.YtmlahfmcccpgjaaRootsLaws
import Derived.Test.YtmlahfmcccpgjaaR18y
namespace Go.Proofs.Ytmlahfmcccpgjaa

theorem sorted_ext : ∀ (a b : List Snp), a.Pairwise (fun p q => p.1 < q.1) → b.Pairwise (fun p q => p.1 < q.1) → (∀ y, y ∈ a ↔ y ∈ b) → a = b
  | [], [], _, _, _ => rfl
  | [], y :: b, _, _, h => by have := (h y).2 List.mem_cons_self; cases this
  | x :: a, [], _, _, h => by have := (h x).1 List.mem_cons_self; cases this
  | x :: a, y :: b, ha, hb, h => by
    have h1 := (h x).1 List.mem_cons_self
    have h2 := (h y).2 List.mem_cons_self
    have hxy : x = y := by
      rcases List.mem_cons.1 h1 with h1 | h1
      · exact h1
      · rcases List.mem_cons.1 h2 with h2 | h2
        · exact h2.symm
        · exact absurd (List.lt_trans (List.rel_of_pairwise_cons ha h2) (List.rel_of_pairwise_cons hb h1)) (List.lt_irrefl _)
    subst hxy
    rw [sorted_ext a b (List.Pairwise.of_cons ha) (List.Pairwise.of_cons hb)]
    intro z
    constructor
    · intro hz
      rcases List.mem_cons.1 ((h z).1 (List.mem_cons_of_mem _ hz)) with rfl | h3
      · exact absurd (List.rel_of_pairwise_cons ha hz) (List.lt_irrefl _)
      · exact h3
    · intro hz
      rcases List.mem_cons.1 ((h z).2 (List.mem_cons_of_mem _ hz)) with rfl | h3
      · exact absurd (List.rel_of_pairwise_cons hb hz) (List.lt_irrefl _)
      · exact h3
theorem mem_insR {l : List Snp} {x y : Snp} : y ∈ insR l x ↔ y = x ∨ y ∈ l := by
  constructor
  · exact insR_mem
  · intro h
    unfold insR
    rw [List.mem_append, List.mem_cons]
    rcases h with h | h
    · exact .inr (.inl h)
    · rw [← List.takeWhile_append_dropWhile (p := fun y : Snp => !decide (x.1 < y.1)) (l := l), List.mem_append] at h
      rcases h with h | h
      · exact .inl h
      · exact .inr (.inr h)
theorem putE_ok {l : List Snp} {x : Snp} (h : (putE l x).2 = 0) : (putE l x).1 = insR l x ∧ x.1 ∉ namesR l ∧ nameB x.1 = true ∧ x.2.length = 32 ∧ l.length < 20 := by
  unfold putE at h ⊢
  split
  · rename_i h1; rw [if_pos h1] at h; simp at h
  rename_i h1
  rw [if_neg h1] at h
  split
  · rename_i h2; rw [if_pos h2] at h; simp at h
  rename_i h2
  rw [if_neg h2] at h
  split
  · rename_i h3; rw [if_pos h3] at h; simp at h
  rename_i h3
  rw [if_neg h3] at h
  split
  · rename_i h4; rw [if_pos h4] at h; simp at h
  rename_i h4
  exact ⟨rfl, not_mem_of_find (by simpa using h3), by simpa using h1, by simpa using h2, by omega⟩
theorem put_put {l : List Snp} {x y : Snp} (hf : fitR l = true) (h1 : (putE l x).2 = 0) (h2 : (putE (putE l x).1 y).2 = 0) (h3 : (putE l y).2 = 0) (h4 : (putE (putE l y).1 x).2 = 0) :
    (putE (putE l x).1 y).1 = (putE (putE l y).1 x).1 ∧ (putE (putE l x).1 y).1.length = l.length + 2 := by
  have e1 := (putE_ok h1).1
  have e2 := (putE_ok h2).1
  have e3 := (putE_ok h3).1
  have e4 := (putE_ok h4).1
  have f2 := (fitR_parts (fitR_put (fitR_put hf x) y)).2.2
  have f4 := (fitR_parts (fitR_put (fitR_put hf y) x)).2.2
  refine ⟨sorted_ext _ _ (up_pairs _ f2) (up_pairs _ f4) ?_, ?_⟩
  · intro z
    rw [e2, e4, e1, e3, mem_insR, mem_insR, mem_insR, mem_insR]
    constructor <;> rintro (h | h | h) <;> simp [h]
  · rw [e2, insR_len, e1, insR_len]

/-- A record is read as what it was made of. -/
theorem read_record {x : Snp} (h : eachR x = true) : readR (recordR x false) = (x, false, true) := by
  simp only [eachR, Bool.and_eq_true, beq_iff_eq] at h
  have hl := nameB_len h.1
  have e : recordR x false = 1 :: (putText x.1 ++ x.2) := by unfold recordR; rw [h.1]; simp [h.2]
  have ht := takeText_put (t := x.1) (by omega) x.2
  have ex : readX (1 :: (putText x.1 ++ x.2)) = x := by
    unfold readX
    simp only [List.drop_succ_cons, List.drop_zero, ht]
    rw [Nat.add_comm, List.drop_succ_cons, List.drop_left]
    simp
  rw [e]
  unfold readR
  rw [if_neg (by simp), List.drop_succ_cons, List.drop_zero, ht, if_neg (by simp), ex]
  have e0 : ((1 :: (putText x.1 ++ x.2))[0]? == some (2 : UInt8)) = false := by simp
  rw [e0, e]
  simp
theorem read_leaves {n : List UInt8} (r : List UInt8) (h : nameB n = true) : readR (recordR (n, r) true) = ((n, []), true, true) := by
  have hl := nameB_len h
  have e : ∀ r, recordR (n, r) true = 2 :: putText n := fun r => by unfold recordR; simp [h]
  have ht := takeText_put (t := n) (by omega) []
  rw [List.append_nil] at ht
  have ex : readX (2 :: putText n) = (n, []) := by
    unfold readX
    simp only [List.drop_succ_cons, List.drop_zero, ht]
    simp
  rw [e]
  unfold readR
  rw [if_neg (by simp), List.drop_succ_cons, List.drop_zero, ht, if_neg (by simp), ex]
  have e0 : ((2 :: putText n)[0]? == some (2 : UInt8)) = true := by simp
  rw [e0, e]
  simp
theorem putE_front {l : List Snp} {x : Snp} (hx : eachR x = true) (h20 : l.length < 20) (hlt : ∀ y ∈ l, x.1 < y.1) : putE l x = (x :: l, 0) := by
  simp only [eachR, Bool.and_eq_true, beq_iff_eq] at hx
  have hf : findR l x.1 = none := findR_none (by
    intro hm
    obtain ⟨y, hy, he⟩ := List.mem_map.1 hm
    have := hlt y hy
    rw [he] at this
    exact List.lt_irrefl _ this)
  have hi : insR l x = x :: l := by
    unfold insR
    cases l with
    | nil => rfl
    | cons y t =>
      have := hlt y List.mem_cons_self
      rw [List.takeWhile_cons_of_neg (by simp [this]), List.dropWhile_cons_of_neg (by simp [this])]
      rfl
  unfold putE
  rw [if_neg (by simp [hx.1]), if_neg (by simp [hx.2]), hf, if_neg (by simp), if_neg (by omega), hi]
/-- What the records of trees come to, from the last one on. -/
theorem replay_back : ∀ (n : Nat) (a b : List Snp) (i : Nat) (rest : List (List UInt8)), a.length = n → fitR (a ++ b) = true → replayR b i (a.reverse.map (fun x => recordR x false) ++ rest) = replayR (a ++ b) (i + a.length) rest
  | 0, a, b, i, rest, hn, _ => by
    obtain rfl := List.length_eq_zero_iff.1 hn
    simp
  | n + 1, a, b, i, rest, hn, hf => by
    obtain ⟨h1, h2, h3⟩ := fitR_parts hf
    rcases List.eq_nil_or_concat a with rfl | ⟨a', x, ha⟩
    · simp at hn
    · rw [List.concat_eq_append] at ha
      subst ha
      have hx : eachR x = true := List.all_eq_true.1 h2 x (by simp)
      have hp := up_pairs _ h3
      rw [List.append_assoc, List.pairwise_append] at hp
      have hlt : ∀ y ∈ b, x.1 < y.1 := fun y hy => List.rel_of_pairwise_cons hp.2.1 hy
      have hb20 : b.length < 20 := by simp at h1; omega
      rw [List.reverse_append, List.map_append]
      simp only [List.reverse_singleton, List.map_cons, List.map_nil, List.cons_append, List.nil_append]
      have hst : stepR b x false = (x :: b, 0) := by unfold stepR; rw [if_neg (by simp), putE_front hx hb20 hlt]
      rw [replayR_on (by rw [read_record hx]) (by rw [read_record hx]; simp only; rw [hst]), read_record hx]
      simp only
      rw [hst]
      have ih := replay_back n a' (x :: b) (i + 1) rest (by simpa using hn) (by simpa using hf)
      rw [ih]
      simp only [List.append_assoc, List.cons_append, List.nil_append, List.length_append, List.length_singleton]
      congr 1
      omega
end Go.Proofs.Ytmlahfmcccpgjaa
