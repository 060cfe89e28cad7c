/- What trees by a seed are: all puts go well. No program in sight. An edited tree, in plain words. No program in sight. -/
import Derived.Test.YtdkmnolljllddaaDoorGenTree
import Derived.Test.YtdkmnolljllddaaDoorR10d
namespace Go.Proofs.YtdkmnolljllddaaDoor

/-- What the path with number i gets. -/
def itmG (s : Int) (i : Nat) : Option Itm := itemG s i (pathsG.getD i []) (outG (iterG (i + 1) s))
def flatG (s : Int) (k : Nat) : List Itm := (List.range k).flatMap (fun i => (itmG s i).toList)
theorem flatG_step (s : Int) (k : Nat) : flatG s (k + 1) = flatG s k ++ (itmG s k).toList := by
  unfold flatG
  rw [List.range_succ, List.flatMap_append]; simp
theorem flatG_mem {s : Int} {k : Nat} {x : Itm} : x ∈ flatG s k ↔ ∃ i, i < k ∧ itmG s i = some x := by
  unfold flatG
  simp [List.mem_flatMap, Option.mem_toList]
theorem itmG_dir {s : Int} {i : Nat} (h : isDirG (pathsG.getD i []) = true) : itmG s i = some (pathsG.getD i [], true, false, []) := by
  unfold itmG itemG; rw [if_pos h]
theorem itmG_len {s : Int} {i : Nat} {x : Itm} (h : itmG s i = some x) : x.2.2.2.length < 300 := by
  unfold itmG itemG at h
  split at h
  · cases h; simp
  · split at h
    · cases h
    · cases h
      have := outG_range (iterG i s)
      rw [← iterG_last] at this
      simp only
      rw [textG_len _ (by omega) (by omega)]; omega
theorem itmG_odd {s : Int} {i : Nat} {x : Itm} (h : itmG s i = some x) : oddT x = false := by
  unfold itmG itemG at h
  split at h
  · cases h; rfl
  · split at h
    · cases h
    · cases h; rfl
theorem flatG_size (s : Int) : ∀ k, sizeT (flatG s k) ≤ 300 * k ∧ (flatG s k).length ≤ k
  | 0 => by simp [flatG, sizeT]
  | k + 1 => by
    have ih := flatG_size s k
    rw [flatG_step, sizeT_app, List.length_append]
    cases h : itmG s k with
    | none => rw [show sizeT (none : Option Itm).toList = 0 from rfl, show (none : Option Itm).toList.length = 0 from rfl]; omega
    | some x => have := itmG_len h; rw [show sizeT (some x).toList = x.2.2.2.length + 0 from rfl, show (some x).toList.length = 1 from rfl]; omega
theorem paths_fit : ∀ k, k < 8 → fitB (pathsG.getD k []) = true := by decide
theorem paths_up : ∀ k, k < 8 → ∀ j, j < k → ltP (pathsG.getD j []) (pathsG.getD k []) = true := by decide
theorem paths_dir : ∀ k, k < 8 → dirL (pathsG.getD k []) = [] ∨ ∃ j, j < k ∧ dirL (pathsG.getD k []) = pathsG.getD j [] ∧ isDirG (pathsG.getD j []) = true := by decide
theorem putT_last {l : List Itm} {x : Itm} (hf : FitT l) (hu : ∀ y ∈ l, ltP y.1 x.1 = true) (hx : fitB x.1 = true) (ho : oddT x = false)
    (hd : dirL x.1 = [] ∨ ∃ y, findT l (dirL x.1) = some y ∧ y.2.1 = true) (h3 : x.2.2.2.length < 300) (hs : sizeT l ≤ 3000) (hl : l.length < 60) : (putT l x).1 = l ++ [x] := by
  have hn : findT l x.1 = none := by
    cases h : findT l x.1 with
    | none => rfl
    | some z =>
      obtain ⟨hz, e⟩ := findT_mem h
      have := hu z hz
      rw [e, ltP_irrefl] at this; cases this
  have hw : wrongT l x = 0 := by
    unfold wrongT oldT
    rw [hx, ho, hn]
    rcases hd with hd | ⟨y, hy, hy2⟩
    · rw [hd]
      simp; omega
    · rw [hy]
      simp [hy2]; omega
  rw [putT_ok hw]
  exact with_end hu
theorem tree_flat (s : Int) : ∀ k, k ≤ 8 → treeK s k = flatG s k
  | 0, _ => rfl
  | k + 1, h => by
    have ih := tree_flat s k (by omega)
    have hft := treeK_fit s k
    rw [ih] at hft
    rw [flatG_step]
    show putO (treeK s k) (itmG s k) = _
    rw [ih]
    cases hi : itmG s k with
    | none => simp [putO]
    | some x =>
      have hp : x.1 = pathsG.getD k [] := itemG_path hi
      have hz := flatG_size s k
      show (putT (flatG s k) x).1 = _
      refine putT_last hft ?_ (by rw [hp]; exact paths_fit k (by omega)) (itmG_odd hi) ?_ (itmG_len hi) (by omega) (by omega)
      · intro y hy
        obtain ⟨j, hj, e⟩ := flatG_mem.1 hy
        rw [hp, itemG_path e]
        exact paths_up k (by omega) j hj
      · rw [hp]
        rcases paths_dir k (by omega) with h1 | ⟨j, hj, h1, h2⟩
        · exact .inl h1
        · refine .inr ⟨(pathsG.getD j [], true, false, []), ?_, rfl⟩
          rw [h1]
          exact findT_of hft.up (flatG_mem.2 ⟨j, hj, itmG_dir h2⟩)
theorem treeG_fit (s : Int) : FitT (treeG s) := treeK_fit s 8
theorem treeG_len (s : Int) : (treeG s).length ≤ 8 := by
  unfold treeG
  rw [tree_flat s 8 (by omega)]
  exact (flatG_size s 8).2
theorem treeG_small {s : Int} {x : Itm} (h : x ∈ treeG s) : x.2.2.2.length < 300 := by
  unfold treeG at h
  rw [tree_flat s 8 (by omega)] at h
  obtain ⟨i, _, e⟩ := flatG_mem.1 h
  exact itmG_len e
theorem itmG_isdir {s : Int} {i : Nat} : (itmG s i).toList.countP (fun x => x.2.1) = if isDirG (pathsG.getD i []) = true then 1 else 0 := by
  unfold itmG itemG
  split
  · rfl
  · split <;> rfl
theorem treeG_dirs (s : Int) : (treeG s).countP (fun x => x.2.1) = 3 := by
  unfold treeG
  rw [tree_flat s 8 (by omega)]
  have h : ∀ k, (flatG s k).countP (fun x => x.2.1) = ((List.range k).map (fun i => if isDirG (pathsG.getD i []) = true then 1 else 0)).sum := by
    intro k
    induction k with
    | zero => rfl
    | succ k ih => rw [flatG_step, List.countP_append, ih, itmG_isdir, List.range_succ, List.map_append, List.sum_append]; rfl
  rw [h]; decide
theorem treeG_d (s : Int) : findT (treeG s) [100] = some ([100], true, false, []) := by
  have h := findT_of (treeG_fit s).up (y := ([100], true, false, [])) (by
    unfold treeG
    rw [tree_flat s 8 (by omega)]
    exact flatG_mem.2 ⟨2, by omega, itmG_dir (by decide)⟩)
  exact h
end Go.Proofs.YtdkmnolljllddaaDoor

namespace Go.Proofs.YtdkmnolljllddaaDoor

def filesT (l : List Itm) : List Itm := l.filter (fun x => !x.2.1)
def plusT (x : Itm) (n : Nat) : Itm := (x.1, x.2.1, x.2.2.1, x.2.2.2.take n ++ [43] ++ x.2.2.2.drop n)
def pickT (l : List Itm) (s : Int) : Itm := (filesT l).getD ((numberG s 1).toNat % (filesT l).length) ([], false, false, [])
def newT (l : List Itm) (s : Int) : Itm := plusT (pickT l s) ((numberG s 2).toNat % ((pickT l s).2.2.2.length + 1))
def editT (l : List Itm) (s : Int) : List Itm := if filesT l = [] then l else (putT l (newT l s)).1
theorem numberG_one (s : Int) : numberG s 1 = outG (stepG s) := by unfold numberG; rw [if_neg (by omega)]; rfl
theorem numberG_two (s : Int) : numberG s 2 = outG (stepG (stepG s)) := by unfold numberG; rw [if_neg (by omega)]; rfl
theorem pickT_mem {l : List Itm} {s : Int} (h : filesT l ≠ []) : pickT l s ∈ l ∧ (pickT l s).2.1 = false := by
  have hlen : 0 < (filesT l).length := List.length_pos_iff.2 h
  have hi : (numberG s 1).toNat % (filesT l).length < (filesT l).length := Nat.mod_lt _ hlen
  have hm : pickT l s ∈ filesT l := by
    unfold pickT
    rw [List.getD_eq_getElem?_getD, List.getElem?_eq_getElem hi]
    exact List.getElem_mem hi
  have := List.mem_filter.1 hm
  exact ⟨this.1, by simpa using this.2⟩
theorem plusT_len (x : Itm) (n : Nat) : (plusT x n).2.2.2.length = x.2.2.2.length + 1 := by
  simp [plusT]; omega
/-- What an edit does to a tree that can be: a file has one byte more; or nothing, where it is full. -/
theorem editT_cases {l : List Itm} {s : Int} (hf : FitT l) : (filesT l = [] ∧ editT l s = l) ∨
    (filesT l ≠ [] ∧ editT l s = l ∧ (32768 ≤ (pickT l s).2.2.2.length ∨ 65536 ≤ sizeT l)) ∨
    (filesT l ≠ [] ∧ ∃ k, ∃ h : k < l.length, l[k] = pickT l s ∧ editT l s = l.take k ++ newT l s :: l.drop (k + 1) ∧ editT l s = withT l (newT l s)) := by
  by_cases h : filesT l = []
  · exact .inl ⟨h, by unfold editT; rw [if_pos h]⟩
  right
  obtain ⟨hm, hd⟩ := pickT_mem (s := s) h
  have hE : editT l s = (putT l (newT l s)).1 := by unfold editT; rw [if_neg h]
  obtain ⟨k, hk, he⟩ := List.mem_iff_getElem.1 hm
  have hfd : findT l (newT l s).1 = some (pickT l s) := findT_of hf.up hm
  have hok := hf.ok _ hm
  unfold okT at hok
  simp only [Bool.and_eq_true, Bool.not_eq_true', decide_eq_true_eq] at hok
  obtain ⟨h1, h2, h3, h4⟩ := hok
  have hlen : (newT l s).2.2.2.length = (pickT l s).2.2.2.length + 1 := plusT_len _ _
  by_cases hw : wrongT l (newT l s) = 0
  · refine .inr ⟨h, k, hk, he, ?_, ?_⟩
    · rw [hE, putT_ok hw]
      have hl : l = l.take k ++ l[k] :: l.drop (k + 1) := by rw [List.getElem_cons_drop, List.take_append_drop]
      have hx1 : l[k].1 = (newT l s).1 := by rw [he]; rfl
      have hu := hf.up
      unfold upT at hu
      rw [List.pairwise_map] at hu
      have key := withT_split2 (A := l.take k) (B := l.drop (k + 1)) (x := newT l s) (z := l[k]) (fun y hy => by
        obtain ⟨j, hj, rfl⟩ := List.mem_iff_getElem.1 hy
        rw [List.length_take] at hj
        rw [List.getElem_take, ← hx1]
        exact List.pairwise_iff_getElem.1 hu j k (by omega) hk (by omega)) (fun y hy => by
        rw [← hx1]; exact up_rest hf.up hk y hy) hx1
      rw [← hl] at key
      exact key
    · rw [hE, putT_ok hw]
  · refine .inl ⟨h, by rw [hE, putT_wrong rfl hw], ?_⟩
    apply Classical.byContradiction
    intro hn
    have hn1 : (pickT l s).2.2.2.length < 32768 := by omega
    have hn2 : sizeT l < 65536 := by omega
    apply hw
    unfold wrongT
    have e1 : fitB (newT l s).1 = true := h1
    have e2 : oddT (newT l s) = false := by
      show ((pickT l s).2.1 && _) = false
      rw [hd]; rfl
    have e3 : (newT l s).2.1 = false := hd
    rw [if_neg (by rw [e1]; simp), if_neg (by rw [e2]; simp)]
    have hdir : dirL (newT l s).1 = [] ∨ ∃ y, findT l (dirL (newT l s).1) = some y ∧ y.2.1 = true := by
      have h5 : underT l (newT l s).1 = true := h4
      unfold underT at h5
      rw [Bool.or_eq_true] at h5
      rcases h5 with h5 | h5
      · exact .inl (by simpa using h5)
      · cases hfy : findT l (dirL (newT l s).1) with
        | none => rw [hfy] at h5; cases h5
        | some y => rw [hfy] at h5; exact .inr ⟨y, rfl, h5⟩
    rw [if_neg (by
      rintro ⟨ha, hb⟩
      rcases hdir with hdir | ⟨y, hy, _⟩
      · exact ha hdir
      · rw [hy] at hb; cases hb)]
    rw [if_neg (by
      rintro (⟨ha, y, hy, hb⟩ | ⟨y, hy, hb⟩)
      · rcases hdir with hdir | ⟨y', hy', h6⟩
        · exact ha hdir
        · rw [hy'] at hy; cases hy; rw [h6] at hb; cases hb
      · rw [hfd] at hy; cases hy; exact hb (by rw [e3, hd]))]
    rw [if_neg (by
      have : oldT l (newT l s).1 = (pickT l s).2.2.2.length := by unfold oldT; rw [hfd]
      rw [this, hlen]
      omega)]
    rw [if_neg (by rw [hfd]; simp)]
theorem editT_fit {l : List Itm} {s : Int} (hf : FitT l) : FitT (editT l s) := by
  unfold editT
  split
  · exact hf
  · exact putT_fit hf
theorem editT_size {l : List Itm} {s : Int} (hf : FitT l) : editT l s = l ∨ sizeT (editT l s) = sizeT l + 1 := by
  rcases editT_cases (s := s) hf with ⟨_, h⟩ | ⟨_, h, _⟩ | ⟨hne, k, hk, he, h, h2⟩
  · exact .inl h
  · exact .inl h
  · right
    have hsz := sizeT_with (x := newT l s) hf.up
    have hfd : findT l (newT l s).1 = some (pickT l s) := findT_of hf.up (pickT_mem hne).1
    have : oldT l (newT l s).1 = (pickT l s).2.2.2.length := by unfold oldT; rw [hfd]
    have hlen : (newT l s).2.2.2.length = (pickT l s).2.2.2.length + 1 := plusT_len _ _
    rw [h2]; omega
theorem editT_len {l : List Itm} {s : Int} (hf : FitT l) : (editT l s).length = l.length := by
  rcases editT_cases (s := s) hf with ⟨_, h⟩ | ⟨_, h, _⟩ | ⟨hne, k, hk, he, h, h2⟩
  · rw [h]
  · rw [h]
  · rw [h, List.length_append, List.length_take, List.length_cons, List.length_drop]; omega
end Go.Proofs.YtdkmnolljllddaaDoor
