/- A statement's arguments, opened: trees' items, how long their texts can be; parameters. -/
import Derived.Test.YtaompdnnkfmjhaaGreatDoorArgsT
namespace Go.Proofs.YtaompdnnkfmjhaaGreatDoor
open Go.ChangeShapes Go.WideShapes Go.ChangeAt Go.RowKit Go.Deep Go.Joins

section
variable {H : Type} {enc : TypeId × Value → H} {W : World} {base : Nat} {sp : Nat → Bool} {held : Bool}
theorem rowK_of_trodW {P : Program} {α : Type} (f : α → List Value) (Good : α → DataW H → Prop) {K : Nat} (hK : 0 < K) (hf : ∀ x, (f x).length = K) {t e : TypeId} {fuel : Nat} {v : Value} {x : DataW H × List MemPlace}
    (ht : P.underlying t = some (.slice e)) (hc : P.cellsOf e = K) (he : ∀ n cs y, DataW.trod enc P W base sp held n e cs = some y → cs.length = K → ∃ z : α, cs = f z ∧ Good z y.1)
    (h : DataW.trod enc P W base sp held fuel t [v] = some x) : ∃ xs, Row f W v xs ∧ (xs = [] ∨ ∃ elems sp', x.1 = .slice elems sp' ∧ elems.length = xs.length ∧ ∀ (j : Nat) z, xs[j]? = some z → ∃ d, elems[j]? = some d ∧ Good z d) := by
  rcases open_slice ht h with ⟨h1, _⟩ | ⟨a, len, cap, m, n, D, Pl, h1, _, hl, hm, hmm, hxx, hi⟩
  · obtain rfl : v = .slice none 0 0 := by simpa using h1
    exact ⟨[], Row.nil _ W, .inl rfl⟩
  · obtain rfl : v = .slice (some a) len cap := by simpa using h1
    have hle : len ≤ m := by rw [hmm]; split <;> omega
    have hs : ∀ i : Fin len, ∃ z : α, (∀ j u, (f z)[j]? = some u → W.cell? ((a.add (i.val * K)).add j) = some u) ∧ Good z (D i.val) := by
      intro i
      obtain ⟨cs', hcs, htr⟩ := hi i.val (by have := i.isLt; omega)
      rw [hc] at hcs
      obtain ⟨_, hcl, hat⟩ := World.cells?_some hcs
      obtain ⟨z, rfl, hg⟩ := he _ _ _ htr hcl
      refine ⟨z, fun j u hu => ?_, hg⟩
      have hj := (List.getElem?_eq_some_iff.1 hu).1
      have h2 := hat j (by rw [hf] at hj; exact hj)
      rw [h2]
      simpa using hu
    obtain ⟨g, hg⟩ := Classical.axiomOfChoice hs
    by_cases h0 : len = 0
    · subst h0
      exact ⟨[], ⟨some a, cap, rfl, hl, hm, .inl rfl⟩, .inl rfl⟩
    · refine ⟨List.ofFn g, ⟨some a, cap, by simp, by simpa using hl, hm, .inr ?_⟩, .inr ⟨(List.range len).map D, (List.range (m - len)).map fun j => D (len + j), by rw [hxx], by simp, fun j z hz => ?_⟩⟩
      · have hlen : 0 < len := by omega
        obtain ⟨u, hu⟩ : ∃ u, (f (g ⟨0, hlen⟩))[0]? = some u := ⟨(f (g ⟨0, hlen⟩))[0]'(by rw [hf]; exact hK), List.getElem?_eq_getElem _⟩
        have hz := spot_none ((hg ⟨0, by omega⟩).1 0 u hu)
        obtain ⟨b, o, s⟩ := a
        have hs0 : s = none := by simpa [Addr.add] using hz
        subst hs0
        refine ⟨b, o, rfl, fun j x hx i u hu => ?_⟩
        rw [List.getElem?_ofFn] at hx
        split at hx
        · rename_i hj
          cases hx
          have h1 := (hg ⟨j, hj⟩).1 i u hu
          rw [addr_cell] at h1
          rw [hf]; exact h1
        · cases hx
      · rw [List.getElem?_ofFn] at hz
        split at hz
        · rename_i hj
          cases hz
          exact ⟨D j, by simp [hj], (hg ⟨j, hj⟩).2⟩
        · cases hz
theorem weightsAll_in {P : Program} {e : TypeId} {b : Nat} : ∀ (l : List (DataW H)) (d : DataW H), d ∈ l → (DataW.weightsAll P e l).all (· ≤ b) = true → (d.weights P e).all (· ≤ b) = true
  | [], _, h, _ => by cases h
  | c :: l, d, h, hb => by
    rw [DataW.weightsAll, List.all_append, Bool.and_eq_true] at hb
    rcases List.mem_cons.1 h with rfl | h
    · exact hb.1
    · exact weightsAll_in l d h hb.2
set_option maxRecDepth 100000 in
theorem sizesW : Tryz.prog.bytesOf 65 = 40 ∧ Tryz.prog.cellsOf 3 = 1 ∧ Tryz.prog.cellsOf 51 = 3 := by
  refine ⟨?_, ?_, ?_⟩ <;> kernel_rfl
set_option maxRecDepth 100000 in
theorem itc_of_trodW (n : Nat) (cs : List Value) (y : DataW H × List MemPlace) (h : DataW.trod enc Tryz.prog W base sp held n 65 cs = some y) (hl : cs.length = 4) :
    ∃ x : Itm, cs = itC x ∧ ∀ b, (y.1.weights Tryz.prog 65).all (· ≤ b) = true → x.1.length ≤ b ∧ x.2.2.2.length ≤ b := by
  obtain ⟨c0, c1, c2, c3, rfl⟩ := list4 hl
  obtain ⟨ys, n', _, hy, _, hyl, hf⟩ := DataW.trod_struct Tryz.underlying65 h
  have t1 := hf 0 _ rfl
  have t2 := hf 1 _ rfl
  have t3 := hf 2 _ rfl
  have t4 := hf 3 _ rfl
  change DataW.trod enc Tryz.prog W base sp held n' 9 (([c0, c1, c2, c3].drop 0).take (Tryz.prog.cellsOf 9)) = ys[0]? at t1
  change DataW.trod enc Tryz.prog W base sp held n' 4 (([c0, c1, c2, c3].drop 1).take (Tryz.prog.cellsOf 4)) = ys[1]? at t2
  change DataW.trod enc Tryz.prog W base sp held n' 4 (([c0, c1, c2, c3].drop 2).take (Tryz.prog.cellsOf 4)) = ys[2]? at t3
  change DataW.trod enc Tryz.prog W base sp held n' 9 (([c0, c1, c2, c3].drop 3).take (Tryz.prog.cellsOf 9)) = ys[3]? at t4
  rw [sizesT.2.1] at t1 t4
  rw [sizesT.2.2] at t2 t3
  match ys, hyl with
  | [y0, y1, y2, y3], _ =>
    obtain ⟨s1, e1, x1, _⟩ := DataW.trod_string Tryz.underlying9 (show DataW.trod enc Tryz.prog W base sp held n' 9 [c0] = some y0 from t1)
    obtain ⟨b2, e2, x2⟩ := DataW.trod_bool Tryz.underlying4 (show DataW.trod enc Tryz.prog W base sp held n' 4 [c1] = some y1 from t2)
    obtain ⟨b3, e3, x3⟩ := DataW.trod_bool Tryz.underlying4 (show DataW.trod enc Tryz.prog W base sp held n' 4 [c2] = some y2 from t3)
    obtain ⟨s4, e4, x4, _⟩ := DataW.trod_string Tryz.underlying9 (show DataW.trod enc Tryz.prog W base sp held n' 9 [c3] = some y3 from t4)
    cases e1; cases e2; cases e3; cases e4
    refine ⟨(s1.data.toList, b2, b3, s4.data.toList), by simp, fun b hb => ?_⟩
    rw [hy] at hb
    have hb2 : ((y0.1.weights Tryz.prog 9 ++ (y1.1.weights Tryz.prog 4 ++ (y2.1.weights Tryz.prog 4 ++ (y3.1.weights Tryz.prog 9 ++ [])))).all (· ≤ b)) = true := by
      have h9 := hb
      simp only [DataW.weights, Tryz.underlying65] at h9
      exact h9
    rw [x1, x4] at hb2
    simp only [List.all_append, Bool.and_eq_true] at hb2
    have h1 : ([s1.data.toList.length] : List Nat).all (· ≤ b) = true := hb2.1
    have h4 : ([s4.data.toList.length] : List Nat).all (· ≤ b) = true := hb2.2.2.2.1
    simp only [List.all_cons, Bool.and_eq_true, decide_eq_true_eq] at h1 h4
    exact ⟨h1.1, h4.1⟩
set_option maxRecDepth 100000 in
theorem items_of_val {b0 : Nat} {r : Reach} {v : Value} {d : DataW H} {ps : List MemPlace}
    (hval : Value.okWide Tryz.prog W r b0 52 v) (h : DataW.Trod enc Tryz.prog W base sp held 52 v d ps) :
    ∃ xs : List Itm, ItRow W v xs ∧ ∀ b, (d.weights Tryz.prog 52).all (· ≤ b) = true → xs.length * 40 ≤ b ∧ ∀ x ∈ xs, x.1.length ≤ b ∧ x.2.2.2.length ≤ b := by
  obtain ⟨a0, n0, c0, rfl⟩ := okWide_slice Tryz.underlying52 hval
  obtain ⟨fuel, hf⟩ := h
  obtain ⟨xs, hr, hd⟩ := rowK_of_trodW (K := 4) itC (fun x d => ∀ b, (d.weights Tryz.prog 65).all (· ≤ b) = true → x.1.length ≤ b ∧ x.2.2.2.length ≤ b) (by omega) (fun _ => rfl) Tryz.underlying52 sizesT.1 itc_of_trodW (show DataW.trod enc Tryz.prog W base sp held fuel 52 [.slice a0 n0 c0] = some _ from hf)
  refine ⟨xs, hr, fun b hb => ?_⟩
  rcases hd with rfl | ⟨elems, sp', he, hlen, hg⟩
  · exact ⟨by simp, by simp⟩
  · rw [show d = .slice elems sp' from he] at hb
    simp only [DataW.weights, Tryz.underlying52, List.all_cons, List.all_append, Bool.and_eq_true, decide_eq_true_eq] at hb
    obtain ⟨h1, h2, _⟩ := hb
    rw [sizesW.1] at h1
    refine ⟨by rw [← hlen]; omega, fun x hx => ?_⟩
    obtain ⟨j, hj⟩ := List.getElem?_of_mem hx
    obtain ⟨d1, hd1, hgd⟩ := hg j x hj
    exact hgd b (weightsAll_in elems d1 (List.mem_of_getElem? hd1) h2)
set_option maxRecDepth 100000 in
theorem prm_of_val {b0 : Nat} {r : Reach} {v : Value} {d : DataW H} {ps : List MemPlace}
    (hval : Value.okWide Tryz.prog W r b0 51 v) (h : DataW.Trod enc Tryz.prog W base sp held 51 v d ps) : ∃ x y z : Int, v = .agg #[.int .i64 x, .int .i64 y, .int .i64 z] := by
  obtain ⟨cs, rfl, hsz⟩ := okWide_struct Tryz.underlying51 hval
  obtain ⟨l, rfl⟩ : ∃ l : List Value, cs = l.toArray := ⟨cs.toList, by simp⟩
  obtain ⟨c0, c1, c2, rfl⟩ := list3 (l := l) (by simpa using hsz.trans sizesW.2.2)
  obtain ⟨fuel, hfu⟩ := h
  obtain ⟨ys, n', _, hd, _, hyl, hf⟩ := DataW.trod_struct Tryz.underlying51 hfu
  have t1 := hf 0 _ rfl
  have t2 := hf 1 _ rfl
  have t3 := hf 2 _ rfl
  change DataW.trod enc Tryz.prog W base sp held n' 3 (([c0, c1, c2].drop 0).take (Tryz.prog.cellsOf 3)) = ys[0]? at t1
  change DataW.trod enc Tryz.prog W base sp held n' 3 (([c0, c1, c2].drop 1).take (Tryz.prog.cellsOf 3)) = ys[1]? at t2
  change DataW.trod enc Tryz.prog W base sp held n' 3 (([c0, c1, c2].drop 2).take (Tryz.prog.cellsOf 3)) = ys[2]? at t3
  rw [sizesW.2.1] at t1 t2 t3
  match ys, hyl with
  | [y0, y1, y2], _ =>
    obtain ⟨n0, e0, _⟩ := DataW.trod_int Tryz.underlying3 (show DataW.trod enc Tryz.prog W base sp held n' 3 [c0] = some y0 from t1)
    obtain ⟨n1, e1, _⟩ := DataW.trod_int Tryz.underlying3 (show DataW.trod enc Tryz.prog W base sp held n' 3 [c1] = some y1 from t2)
    obtain ⟨n2, e2, _⟩ := DataW.trod_int Tryz.underlying3 (show DataW.trod enc Tryz.prog W base sp held n' 3 [c2] = some y2 from t3)
    cases e0; cases e1; cases e2
    exact ⟨n0, n1, n2, rfl⟩
end
end Go.Proofs.YtaompdnnkfmjhaaGreatDoor
