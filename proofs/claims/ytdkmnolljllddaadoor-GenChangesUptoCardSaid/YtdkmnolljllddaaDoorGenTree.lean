/- Trees by a seed, in plain words. No program in sight. -/
import Derived.Test.YtdkmnolljllddaaDoorGenPlain
import Derived.Test.YtdkmnolljllddaaDoorR10f
namespace Go.Proofs.YtdkmnolljllddaaDoor

def pathsG : List (List UInt8) := [[97], [98], [100], [100, 47, 97], [100, 47, 99], [101], [101, 47, 102], [101, 47, 102, 47, 97]]
def isDirG (p : List UInt8) : Bool := p == [100] || (p == [101] || p == [101, 47, 102])
def seedG (s : Int) (i : Nat) : Int := IntKind.u64.wrap (s + ((i + 1 : Nat) : Int))
/-- What a path gets by a number; none: nothing. -/
def itemG (s : Int) (i : Nat) (p : List UInt8) (x : Int) : Option Itm :=
  if isDirG p = true then some (p, true, false, []) else if x % 4 = 0 then none else some (p, false, x % 8 == 1, textG (seedG s i) (x % 300))
def putO (l : List Itm) : Option Itm → List Itm
  | none => l
  | some x => (putT l x).1
/-- The tree of the first k paths. -/
def treeK (s : Int) : Nat → List Itm
  | 0 => []
  | k + 1 => putO (treeK s k) (itemG s k (pathsG.getD k []) (outG (iterG (k + 1) s)))
def treeG (s : Int) : List Itm := treeK s 8
theorem FitT.nil : FitT [] := ⟨by decide, by unfold upT; simp, by simp, by decide⟩
theorem putO_fit {l : List Itm} {o : Option Itm} (h : FitT l) : FitT (putO l o) := by
  cases o with
  | none => exact h
  | some x => exact putT_fit h
theorem treeK_fit (s : Int) : ∀ k, FitT (treeK s k)
  | 0 => FitT.nil
  | k + 1 => putO_fit (treeK_fit s k)
theorem seed_wrap (s : Int) (i : Nat) : IntKind.u64.wrap (IntKind.u64.wrap (s + (i : Int)) + 1) = seedG s i := by
  unfold seedG
  simp only [IntKind.wrap, IntKind.bits, IntKind.signed]; simp; omega
theorem textG_len (s : Int) {n : Int} (h0 : 0 ≤ n) (h1 : n < 300) : (textG s n).length = n.toNat := by
  unfold textG countG
  rw [List.length_map, numsG_len, Int.min_eq_left (by omega)]
theorem itemG_path {s : Int} {i : Nat} {p : List UInt8} {x : Int} {y : Itm} (h : itemG s i p x = some y) : y.1 = p := by
  unfold itemG at h
  split at h
  · cases h; rfl
  · split at h
    · cases h
    · cases h; rfl
theorem putO_path {P : List UInt8 → Prop} {l : List Itm} {o : Option Itm} (h : ∀ x ∈ l, P x.1) (h2 : ∀ y, o = some y → P y.1) : ∀ x ∈ putO l o, P x.1 := by
  cases o with
  | none => exact h
  | some y =>
    intro x hx
    replace hx : x ∈ (putT l y).1 := hx
    by_cases hw : wrongT l y = 0
    · rw [putT_ok hw] at hx
      rcases withT_mem.1 hx with rfl | ⟨h3, _⟩
      · exact h2 _ rfl
      · exact h x h3
    · rw [putT_wrong rfl hw] at hx
      exact h x hx
theorem pathsG_len (k : Nat) : (pathsG.getD k []).length ≤ 5 := by
  match k with
  | 0 | 1 | 2 | 3 | 4 | 5 | 6 | 7 => decide
  | k + 8 => simp [pathsG]
theorem treeK_path (s : Int) : ∀ k, ∀ x ∈ treeK s k, x.1.length ≤ 5
  | 0 => by intro x hx; cases hx
  | k + 1 => putO_path (P := fun p => p.length ≤ 5) (treeK_path s k) (fun y h => by rw [itemG_path h]; exact pathsG_len k)
end Go.Proofs.YtdkmnolljllddaaDoor
