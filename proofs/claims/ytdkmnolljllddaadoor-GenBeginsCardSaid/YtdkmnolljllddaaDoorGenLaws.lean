/- What trees by a seed are: all puts go well. No program in sight. -/
import Derived.Test.YtdkmnolljllddaaDoorGenTree
import Derived.Test.YtdkmnolljllddaaDoorR10d
namespace Go.Proofs.YtdkmnolljllddaaDoor

/-- What the path with number i gets. -/
def itmG (s : Int) (i : Nat) : Option Itm := itemG s i (pathsG.getD i []) (outG (iterG (i + 1) s))
def flatG (s : Int) (k : Nat) : List Itm := (List.range k).flatMap (fun i => (itmG s i).toList)
theorem flatG_step (s : Int) (k : Nat) : flatG s (k + 1) = flatG s k ++ (itmG s k).toList := by
  unfold flatG
  rw [List.range_succ, List.flatMap_append]; simp
theorem flatG_mem {s : Int} {k : Nat} {x : Itm} : x ∈ flatG s k ↔ ∃ i, i < k ∧ itmG s i = some x := by
  unfold flatG
  simp [List.mem_flatMap, Option.mem_toList]
theorem itmG_dir {s : Int} {i : Nat} (h : isDirG (pathsG.getD i []) = true) : itmG s i = some (pathsG.getD i [], true, false, []) := by
  unfold itmG itemG; rw [if_pos h]
theorem itmG_len {s : Int} {i : Nat} {x : Itm} (h : itmG s i = some x) : x.2.2.2.length < 300 := by
  unfold itmG itemG at h
  split at h
  · cases h; simp
  · split at h
    · cases h
    · cases h
      have := outG_range (iterG i s)
      rw [← iterG_last] at this
      simp only
      rw [textG_len _ (by omega) (by omega)]; omega
theorem itmG_odd {s : Int} {i : Nat} {x : Itm} (h : itmG s i = some x) : oddT x = false := by
  unfold itmG itemG at h
  split at h
  · cases h; rfl
  · split at h
    · cases h
    · cases h; rfl
theorem flatG_size (s : Int) : ∀ k, sizeT (flatG s k) ≤ 300 * k ∧ (flatG s k).length ≤ k
  | 0 => by simp [flatG, sizeT]
  | k + 1 => by
    have ih := flatG_size s k
    rw [flatG_step, sizeT_app, List.length_append]
    cases h : itmG s k with
    | none => rw [show sizeT (none : Option Itm).toList = 0 from rfl, show (none : Option Itm).toList.length = 0 from rfl]; omega
    | some x => have := itmG_len h; rw [show sizeT (some x).toList = x.2.2.2.length + 0 from rfl, show (some x).toList.length = 1 from rfl]; omega
theorem paths_fit : ∀ k, k < 8 → fitB (pathsG.getD k []) = true := by decide
theorem paths_up : ∀ k, k < 8 → ∀ j, j < k → ltP (pathsG.getD j []) (pathsG.getD k []) = true := by decide
theorem paths_dir : ∀ k, k < 8 → dirL (pathsG.getD k []) = [] ∨ ∃ j, j < k ∧ dirL (pathsG.getD k []) = pathsG.getD j [] ∧ isDirG (pathsG.getD j []) = true := by decide
theorem putT_last {l : List Itm} {x : Itm} (hf : FitT l) (hu : ∀ y ∈ l, ltP y.1 x.1 = true) (hx : fitB x.1 = true) (ho : oddT x = false)
    (hd : dirL x.1 = [] ∨ ∃ y, findT l (dirL x.1) = some y ∧ y.2.1 = true) (h3 : x.2.2.2.length < 300) (hs : sizeT l ≤ 3000) (hl : l.length < 60) : (putT l x).1 = l ++ [x] := by
  have hn : findT l x.1 = none := by
    cases h : findT l x.1 with
    | none => rfl
    | some z =>
      obtain ⟨hz, e⟩ := findT_mem h
      have := hu z hz
      rw [e, ltP_irrefl] at this; cases this
  have hw : wrongT l x = 0 := by
    unfold wrongT oldT
    rw [hx, ho, hn]
    rcases hd with hd | ⟨y, hy, hy2⟩
    · rw [hd]
      simp; omega
    · rw [hy]
      simp [hy2]; omega
  rw [putT_ok hw]
  exact with_end hu
theorem tree_flat (s : Int) : ∀ k, k ≤ 8 → treeK s k = flatG s k
  | 0, _ => rfl
  | k + 1, h => by
    have ih := tree_flat s k (by omega)
    have hft := treeK_fit s k
    rw [ih] at hft
    rw [flatG_step]
    show putO (treeK s k) (itmG s k) = _
    rw [ih]
    cases hi : itmG s k with
    | none => simp [putO]
    | some x =>
      have hp : x.1 = pathsG.getD k [] := itemG_path hi
      have hz := flatG_size s k
      show (putT (flatG s k) x).1 = _
      refine putT_last hft ?_ (by rw [hp]; exact paths_fit k (by omega)) (itmG_odd hi) ?_ (itmG_len hi) (by omega) (by omega)
      · intro y hy
        obtain ⟨j, hj, e⟩ := flatG_mem.1 hy
        rw [hp, itemG_path e]
        exact paths_up k (by omega) j hj
      · rw [hp]
        rcases paths_dir k (by omega) with h1 | ⟨j, hj, h1, h2⟩
        · exact .inl h1
        · refine .inr ⟨(pathsG.getD j [], true, false, []), ?_, rfl⟩
          rw [h1]
          exact findT_of hft.up (flatG_mem.2 ⟨j, hj, itmG_dir h2⟩)
theorem treeG_fit (s : Int) : FitT (treeG s) := treeK_fit s 8
theorem treeG_len (s : Int) : (treeG s).length ≤ 8 := by
  unfold treeG
  rw [tree_flat s 8 (by omega)]
  exact (flatG_size s 8).2
theorem treeG_small {s : Int} {x : Itm} (h : x ∈ treeG s) : x.2.2.2.length < 300 := by
  unfold treeG at h
  rw [tree_flat s 8 (by omega)] at h
  obtain ⟨i, _, e⟩ := flatG_mem.1 h
  exact itmG_len e
theorem itmG_isdir {s : Int} {i : Nat} : (itmG s i).toList.countP (fun x => x.2.1) = if isDirG (pathsG.getD i []) = true then 1 else 0 := by
  unfold itmG itemG
  split
  · rfl
  · split <;> rfl
theorem treeG_dirs (s : Int) : (treeG s).countP (fun x => x.2.1) = 3 := by
  unfold treeG
  rw [tree_flat s 8 (by omega)]
  have h : ∀ k, (flatG s k).countP (fun x => x.2.1) = ((List.range k).map (fun i => if isDirG (pathsG.getD i []) = true then 1 else 0)).sum := by
    intro k
    induction k with
    | zero => rfl
    | succ k ih => rw [flatG_step, List.countP_append, ih, itmG_isdir, List.range_succ, List.map_append, List.sum_append]; rfl
  rw [h]; decide
theorem treeG_d (s : Int) : findT (treeG s) [100] = some ([100], true, false, []) := by
  have h := findT_of (treeG_fit s).up (y := ([100], true, false, [])) (by
    unfold treeG
    rw [tree_flat s 8 (by omega)]
    exact flatG_mem.2 ⟨2, by omega, itmG_dir (by decide)⟩)
  exact h
end Go.Proofs.YtdkmnolljllddaaDoor
