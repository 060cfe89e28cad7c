/- A node's bytes are read as it. No program in sight. How much a fit node holds. The reference's sets of keys: Has, Same. -/
import Derived.Test.YtocommjoncchpaaGreatDoorNodePlain
import Derived.Test.YtocommjoncchpaaGreatDoorJDiskPlain
namespace Go.Proofs.YtocommjoncchpaaGreatDoor

theorem cutR_app {a : List UInt8} {n : Nat} (h : a.length = n) (r : List UInt8) : cutR n (a ++ r) = some (a, r) := by
  unfold cutR
  rw [if_neg (by rw [List.length_append]; omega), List.take_append_of_le_length (by omega), List.take_of_length_le (by omega), List.drop_append_of_le_length (by omega), List.drop_of_length_le (by omega)]
  rfl
theorem numR_put {n m : Nat} (h : n ≤ m) (hm : m < 2 ^ 64) (r : List UInt8) : numR m (putV n ++ r) = some (n, r) := by
  unfold numR
  rw [takeV_put (by omega)]
  simp only
  rw [if_neg (by simp; omega)]
  simp
theorem textR_put {t : List UInt8} (h : t.length ≤ 65536) (r : List UInt8) : textR (putText t ++ r) = some (t, r) := by
  unfold textR
  rw [takeText_put h]
  simp
theorem partR_put {p : Prt} (h : partOk p = true) (r : List UInt8) : partR (partW p ++ r) = some (p, r) := by
  obtain ⟨k, z⟩ := p
  unfold partOk at h
  simp only [Bool.and_eq_true, beq_iff_eq, decide_eq_true_eq] at h
  unfold partR partW
  simp only
  rw [List.append_assoc, cutR_app h.1]
  simp only
  rw [numR_put (n := z.toNat) (by omega) (by omega)]
  simp only
  rw [show ((z.toNat : Nat) : Int) = z by omega]
theorem entOk_parts {e : Ent} (h : entOk e = true) : (e.2.1 = 2 ∨ e.2.1 = 3 ∧ e.2.2.1 = false) ∧ e.2.2.2.length = 32 ∧ nameB e.1 = true := by
  unfold entOk at h
  simp only [Bool.and_eq_true, Bool.or_eq_true, beq_iff_eq, Bool.not_eq_true'] at h
  exact ⟨h.1, h.2.1, h.2.2⟩
theorem entR_put {e : Ent} (h : entOk e = true) (r : List UInt8) : entR (entW e ++ r) = some (e, r) := by
  obtain ⟨hk, hl, hn⟩ := entOk_parts h
  obtain ⟨t, k, x, key⟩ := e
  simp only at hk hl hn
  have hb : (kindB (kindW (t, k, x, key)) : Int) = k ∧ execB (kindW (t, k, x, key)) = x := by
    rcases hk with rfl | ⟨rfl, rfl⟩
    · cases x
      · rw [show kindW (t, 2, false, key) = 2 from rfl]; exact ⟨by decide, by decide⟩
      · rw [show kindW (t, 2, true, key) = 6 from rfl]; exact ⟨by decide, by decide⟩
    · rw [show kindW (t, 3, false, key) = 3 from rfl]; exact ⟨by decide, by decide⟩
  unfold entR
  have e1 : entW (t, k, x, key) ++ r = putText t ++ (kindW (t, k, x, key) :: (key ++ r)) := by simp [entW]
  rw [e1, textR_put (by have := nameB_len hn; omega)]
  simp only
  rw [cutR_app hl]
  simp only
  rw [hb.1, hb.2]
theorem manyR_put {α : Type} {rd : List UInt8 → Option (α × List UInt8)} {wr : α → List UInt8} {ok : α → Prop} (hr : ∀ x r, ok x → rd (wr x ++ r) = some (x, r)) :
    ∀ (l : List α) (r : List UInt8), (∀ x ∈ l, ok x) → manyR rd l.length (l.flatMap wr ++ r) = some (l, r)
  | [], r, _ => rfl
  | x :: l, r, h => by
    rw [List.length_cons, List.flatMap_cons, List.append_assoc]
    unfold manyR
    rw [hr x _ (h x List.mem_cons_self)]
    simp only
    rw [manyR_put hr l r (fun y hy => h y (List.mem_cons_of_mem _ hy))]
theorem listR_put {α : Type} {rd : List UInt8 → Option (α × List UInt8)} {wr : α → List UInt8} {ok : α → Prop} (hr : ∀ x r, ok x → rd (wr x ++ r) = some (x, r))
    {l : List α} (hl : l.length ≤ 1024) (h : ∀ x ∈ l, ok x) : listR rd (putV l.length ++ l.flatMap wr) = some (l, []) := by
  unfold listR
  rw [numR_put hl (by decide)]
  simp only
  have := manyR_put hr l [] h
  rwa [List.append_nil] at this
theorem parse_write {n : Nod} (hf : FitN n) : parseN (writeN n) = some (n, []) := by
  unfold writeN
  rw [if_pos (fitN_iff.2 hf)]
  obtain ⟨k, d, ps, es⟩ := n
  rcases hf with ⟨h1, h2, h3, h4, h5⟩ | ⟨h1, h2, h3, h4⟩ | ⟨h1, h2, h3, h4⟩
  · simp only at h1 h4 h5
    subst h1 h4 h5
    rfl
  · simp only at h1 h2 h3 h4
    subst h1 h2 h3
    unfold bodyN
    simp only
    rw [if_neg (by decide), if_pos trivial]
    show parseN (UInt8.ofNat 2 :: _) = _
    rw [parseN_cons, if_neg (by decide), if_pos (by decide), listR_put (ok := fun p => partOk p = true) (fun x r h => partR_put h r) h4.len h4.ok]
  · simp only at h1 h2 h3 h4
    subst h1 h2 h3
    unfold bodyN
    simp only
    rw [if_neg (by decide), if_neg (by decide)]
    show parseN (UInt8.ofNat 3 :: _) = _
    rw [parseN_cons, if_neg (by decide), if_neg (by decide), if_pos (by decide), listR_put (ok := fun e => entOk e = true) (fun x r h => entR_put h r) (by have := h4.len; omega) h4.ok]
theorem read_write {n : Nod} (hf : FitN n) : readN (writeN n) = (n, 0) := by
  unfold readN
  rw [parse_write hf]
  simp only
  rw [if_pos (by simp [fitN_iff.2 hf])]
theorem read_ok {s : List UInt8} {n : Nod} (h : readN s = (n, 0)) : FitN n ∧ writeN n = s := by
  unfold readN at h
  cases hp : parseN s with
  | none => rw [hp] at h; cases h
  | some q =>
    obtain ⟨m, r⟩ := q
    rw [hp] at h
    simp only at h
    split at h
    · rename_i hc
      cases h
      have hf := fitN_iff.1 hc.2
      exact ⟨hf, (readN_some hp hf).1 hc.1⟩
    · cases h
theorem read_or (s : List UInt8) : (∃ n, readN s = (n, 0)) ∨ readN s = (zNod, 2) := by
  unfold readN
  cases parseN s with
  | none => exact .inr rfl
  | some q =>
    obtain ⟨m, r⟩ := q
    simp only
    split
    · exact .inl ⟨_, rfl⟩
    · exact .inr rfl
end Go.Proofs.YtocommjoncchpaaGreatDoor

namespace Go.Proofs.YtocommjoncchpaaGreatDoor

theorem fit_sizes {n : Nod} (hf : FitN n) : n.parts.length ≤ 1024 ∧ n.ents.length ≤ 60 ∧ n.data.length ≤ 4096 ∧ (∀ p ∈ n.parts, partOk p = true) ∧ (∀ e ∈ n.ents, entOk e = true) ∧ 1 ≤ n.kind ∧ n.kind ≤ 3 := by
  rcases hf with ⟨h1, h2, h3, h4, h5⟩ | ⟨h1, h2, h3, h4⟩ | ⟨h1, h2, h3, h4⟩
  · rw [h4, h5]; exact ⟨by simp, by simp, h3, by simp, by simp, by omega, by omega⟩
  · rw [h2, h3]; exact ⟨h4.len, by simp, by simp, h4.ok, by simp, by omega, by omega⟩
  · rw [h2, h3]; exact ⟨by simp, h4.len, by simp, by simp, h4.ok, by omega, by omega⟩
end Go.Proofs.YtocommjoncchpaaGreatDoor

namespace Go.Proofs.YtocommjoncchpaaGreatDoor
open Go.RowKit

set_option maxHeartbeats 2000000 in
set_option maxRecDepth 100000 in
theorem rhas_walk (v : Value) (xs : List (List UInt8)) (k : List UInt8) (w : World) (hr : StrRow w v xs) (hcnt : xs.length ≤ 1100000) :
    Calls Tryz.prog 44 #[v, S k] w fun e w' => e = .returned (.bool (decide (k ∈ xs))) ∧ Below w.heap.size w w' := by
  obtain ⟨a, c, rfl, hc, hm, hx⟩ := hr
  have HX := Lib.hid hx
  have HT := Lib.hid (fun (h : k ∈ xs) => decide_eq_true h)
  have HF := Lib.hid (fun (h : ¬ k ∈ xs) => decide_eq_false h)
  generalize decide (k ∈ xs) = res at *
  clear hx
  go_enter Tryz.func44, Tryz.ntmps44
  go_wp2
  go_loopw [5] (fun i wr => ∃ j : Nat, j ≤ xs.length ∧ i = .int .i64 j ∧ (∀ x ∈ xs.take j, x ≠ k) ∧ Below w.heap.size w wr) (fun i _ => xs.length - (intOf i).toNat)
  case atStart => exact ⟨0, Nat.zero_le _, rfl, by simp, Below.refl _ _⟩
  case round =>
    obtain ⟨j, hj, rfl, hall, hB⟩ := hrel
    have HALL := Lib.hid hall
    clear hall
    by_cases h1 : j < xs.length
    · have h1' : (j : Int) < (xs.length : Int) := by omega
      have hx := HX.out
      rcases hx with hx | ⟨b, o, rfl, hx⟩
      · exfalso; rw [hx] at h1; simp at h1
      have hc1 := cell_below hB (str_cell hx h1)
      clear hx
      by_cases hq : xs[j] = k
      · have HR := Lib.hid (HT.out (by rw [← hq]; exact List.getElem_mem h1))
        have hq' : (xs[j] == k) = true := by rw [beq_iff_eq]; exact hq
        clear hq
        generalize xs[j] = y at *
        go_wp2
        go_ret
        exact ⟨by rw [HR.out]; rfl, hB⟩
      · have HN := Lib.hid (show ∀ x ∈ xs.take (j + 1), x ≠ k from fun x hx => by
          rw [List.take_succ_eq_append_getElem h1, List.mem_append] at hx
          rcases hx with hx | hx
          · exact HALL.out x hx
          · simp only [List.mem_singleton] at hx; rw [hx]; exact hq)
        have hq' : (xs[j] == k) = false := by rw [beq_eq_false_iff_ne]; exact hq
        clear hq
        generalize xs[j] = y at *
        go_wp2
        go_roundw
        case rel => exact ⟨j + 1, by omega, by go_num, HN.out, hB⟩
        case measure => simp [intOf]; omega
    · have h1' : ¬ (j : Int) < (xs.length : Int) := by omega
      have HR := Lib.hid (HF.out (fun h => by
        have h2 := HALL.out
        rw [List.take_of_length_le (by omega)] at h2
        exact h2 k h rfl))
      go_wp2
      go_ret
      exact ⟨by rw [HR.out]; rfl, hB⟩

set_option maxHeartbeats 2000000 in
set_option maxRecDepth 100000 in
theorem rsame5_walk (v v2 : Value) (xs ys : List (List UInt8)) (w : World) (hr : StrRow w v xs) (hr2 : StrRow w v2 ys) (hcnt : xs.length ≤ 1100000) :
    Calls Tryz.prog 11 #[v, v2] w fun e w' => e = .returned (.bool (decide (xs = ys))) ∧ Below w.heap.size w w' := by
  obtain ⟨a, c, rfl, hc, hm, hx⟩ := hr
  obtain ⟨a2, c2, rfl, hc2, hm2, hy⟩ := hr2
  have HX := Lib.hid hx
  have HY := Lib.hid hy
  have HT := Lib.hid (fun (h : xs = ys) => decide_eq_true h)
  have HF := Lib.hid (fun (h : ¬ xs = ys) => decide_eq_false h)
  generalize decide (xs = ys) = res at *
  clear hx hy
  by_cases hl : xs.length = ys.length
  · have HL := Lib.hid hl
    have hne : ((xs.length : Int) != (ys.length : Int)) = false := by rw [bne_eq_false_iff_eq]; omega
    have hle1 : xs.length ≤ ys.length := by omega
    clear hl
    go_enter Tryz.func11, Tryz.ntmps11
    go_wp2
    go_loopw [5] (fun i wr => ∃ k : Nat, k ≤ xs.length ∧ i = .int .i64 k ∧ xs.take k = ys.take k ∧ Below w.heap.size w wr) (fun i _ => xs.length - (intOf i).toNat)
    case atStart => exact ⟨0, Nat.zero_le _, rfl, rfl, Below.refl _ _⟩
    case round =>
      obtain ⟨k, hk, rfl, ht, hB⟩ := hrel
      have HTK := Lib.hid ht
      clear ht
      by_cases h1 : k < xs.length
      · have h2 : k < ys.length := by omega
        have h1' : (k : Int) < (xs.length : Int) := by omega
        have h2' : (k : Int) < (ys.length : Int) := by omega
        have hx := HX.out
        rcases hx with hx | ⟨b, o, rfl, hx⟩
        · exfalso; rw [hx] at h1; simp at h1
        have hy := HY.out
        rcases hy with hy | ⟨b2, o2, rfl, hy⟩
        · exfalso; rw [hy] at h2; simp at h2
        have hc1 := cell_below hB (str_cell hx h1)
        have hc2 := cell_below hB (str_cell hy h2)
        have HS := Lib.hid (fun (h : xs[k] = ys[k]) => show xs.take (k + 1) = ys.take (k + 1) by rw [List.take_succ_eq_append_getElem h1, List.take_succ_eq_append_getElem h2, HTK.out, h])
        have HD := Lib.hid (fun (h : ¬ xs[k] = ys[k]) => HF.out (fun e => h (by simp [e])))
        clear hx hy
        generalize xs[k] = p at *
        generalize ys[k] = q at *
        by_cases hpq : p = q
        · have HSS := Lib.hid (HS.out hpq)
          have hb : (p == q) = true := by rw [beq_iff_eq]; exact hpq
          have hb' : (p != q) = false := by rw [bne_eq_false_iff_eq]; exact hpq
          clear hpq
          go_wp2
          go_quiet (fail)
          go_wp2
          go_roundw
          case rel => exact ⟨k + 1, by omega, by go_num, HSS.out, belowN hB _⟩
          case measure => simp [intOf]; omega
        · have HR := Lib.hid (HD.out hpq)
          have hb : (p == q) = false := by rw [beq_eq_false_iff_ne]; exact hpq
          have hb' : (p != q) = true := by rw [bne_iff_ne]; exact hpq
          clear hpq
          go_wp2
          go_quiet (fail)
          go_wp2
          go_ret
          exact ⟨by rw [HR.out]; rfl, belowN hB _⟩
      · have h1' : ¬ (k : Int) < (xs.length : Int) := by omega
        have HR := Lib.hid (HT.out (by
          have e := HTK.out
          have e2 := HL.out
          rwa [List.take_of_length_le (by omega), List.take_of_length_le (by omega)] at e))
        go_wp2
        go_ret
        exact ⟨by rw [HR.out]; rfl, hB⟩
  · have HR := Lib.hid (HF.out (fun e => hl (congrArg List.length e)))
    have hne : ((xs.length : Int) != (ys.length : Int)) = true := by rw [bne_iff_ne]; omega
    clear hl
    go_enter Tryz.func11, Tryz.ntmps11
    go_wp2
    go_ret
    exact ⟨by rw [HR.out]; rfl, Below.refl _ _⟩
end Go.Proofs.YtocommjoncchpaaGreatDoor
