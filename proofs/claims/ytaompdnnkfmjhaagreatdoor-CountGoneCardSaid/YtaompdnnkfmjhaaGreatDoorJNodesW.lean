/- How many bytes a tree's objects have: plain. Chapter 14's example, a tree of one file of one byte: plain. Arrays of words and of bytes in memory. -/
import Derived.Test.YtaompdnnkfmjhaaGreatDoorJFetchB
import Derived.Test.YtaompdnnkfmjhaaGreatDoorCountA
import Derived.Test.YtaompdnnkfmjhaaGreatDoorJR11c
import Derived.Test.YtaompdnnkfmjhaaGreatDoorJPFit11
import Derived.Test.YtaompdnnkfmjhaaGreatDoorJCList
namespace Go.Proofs.YtaompdnnkfmjhaaGreatDoor

theorem rawsL_app (a b : List Snp) : rawsL (a ++ b) = rawsL a + rawsL b := by simp [rawsL]
theorem rawsL_ins (l : List Snp) (x : Snp) : rawsL (insR l x) = rawsL l + x.2.length := by
  unfold insR
  have h := congrArg rawsL (List.takeWhile_append_dropWhile (p := fun y => !decide (x.1 < y.1)) (l := l))
  rw [rawsL_app] at h
  rw [rawsL_app, show rawsL (x :: l.dropWhile (fun y => !decide (x.1 < y.1))) = x.2.length + rawsL (l.dropWhile (fun y => !decide (x.1 < y.1))) by simp [rawsL]]
  omega
theorem rawsL_add (l : List Snp) (x : Snp) : rawsL (addO l x) ≤ rawsL l + x.2.length := by
  unfold addO
  split
  · omega
  · rw [rawsL_ins]; omega
noncomputable def wtN (l : List Nod) : Nat := (l.map (fun n => (writeN n).length)).sum
theorem wtN_app (a b : List Nod) : wtN (a ++ b) = wtN a + wtN b := by simp [wtN]
theorem rawsL_fold : ∀ (l : List Nod) (o : List Snp), rawsL (l.foldl putN o) ≤ rawsL o + wtN l
  | [], o => by simp [wtN]
  | n :: l, o => by
    have h1 := rawsL_fold l (putN o n)
    have h2 : rawsL (putN o n) ≤ rawsL o + (writeN n).length := rawsL_add o (keyN n, writeN n)
    have h3 : wtN (n :: l) = (writeN n).length + wtN l := by simp [wtN]
    rw [List.foldl_cons]
    omega
theorem writeN_wt {n : Nod} (hf : FitN n) : (writeN n).length ≤ 11 + n.data.length + 42 * n.parts.length + 74 * n.ents.length := by
  unfold writeN
  rw [if_pos (fitN_iff.2 hf)]
  obtain ⟨kd, d, ps, es⟩ := n
  rcases hf with ⟨h1, h2, h3, h4, h5⟩ | ⟨h1, h2, h3, h4⟩ | ⟨h1, h2, h3, h4⟩
  · simp only at h1 h3; subst h1
    show (_ :: d).length ≤ _
    rw [List.length_cons]; simp; omega
  · simp only at h1 h4; subst h1
    show (_ :: (putV ps.length ++ ps.flatMap partW)).length ≤ _
    have h6 := putV_len (n := ps.length) (by have := h4.len; omega)
    have h7 := flat_bound (f := partW) (B := 42) (l := ps) (fun x hx => partW_len (h4.ok x hx))
    rw [List.length_cons, List.length_append]; simp only; omega
  · simp only at h1 h4; subst h1
    show (_ :: (putV es.length ++ es.flatMap entW)).length ≤ _
    have h6 := putV_len (n := es.length) (by have := h4.len; omega)
    have h7 := flat_bound (f := entW) (B := 74) (l := es) (fun x hx => entW_len (h4.ok x hx))
    rw [List.length_cons, List.length_append]; simp only; omega
section
variable {pc : List UInt8 → List (List UInt8)} {items : List Itm}
theorem wt_pieces : ∀ (ps : List (List UInt8)), (∀ s ∈ ps, 1 ≤ s.length ∧ s.length ≤ 4096) → wtN (ps.map pieceN) ≤ 12 * ps.flatten.length ∧ ps.length ≤ ps.flatten.length
  | [], _ => by simp [wtN]
  | s :: ps, h => by
    obtain ⟨h1, h2⟩ := wt_pieces ps (fun t ht => h t (List.mem_cons_of_mem _ ht))
    have h3 := h s List.mem_cons_self
    have h4 := writeN_wt (fit_piece h3.1 h3.2)
    have h5 : (pieceN s).data.length = s.length ∧ (pieceN s).parts.length = 0 ∧ (pieceN s).ents.length = 0 := ⟨rfl, rfl, rfl⟩
    have h6 : wtN ((s :: ps).map pieceN) = (writeN (pieceN s)).length + wtN (ps.map pieceN) := by simp [wtN]
    rw [h6, List.flatten_cons, List.length_append, List.length_cons]
    omega
theorem wt_file (hr : Ready pc items) {x : Itm} (hx : x ∈ items) : wtN (nodesF (pc x.2.2.2)) ≤ 11 + 54 * x.2.2.2.length := by
  have hfl := hr.flat x hx
  obtain ⟨h1, h2⟩ := wt_pieces (pc x.2.2.2) (hr.each x hx)
  rw [hfl] at h1 h2
  have h3 := writeN_wt (hr.file hx)
  have h5 : (fileN (pc x.2.2.2)).data.length = 0 ∧ (fileN (pc x.2.2.2)).parts.length = (pc x.2.2.2).length ∧ (fileN (pc x.2.2.2)).ents.length = 0 := ⟨rfl, by simp [fileN], rfl⟩
  have h6 : wtN [fileN (pc x.2.2.2)] = (writeN (fileN (pc x.2.2.2))).length := by simp [wtN]
  unfold nodesF
  rw [wtN_app, h6]
  omega
theorem wt_dir (hr : Ready pc items) : ∀ (n : Nat) (d : List UInt8), wtN (nodesD pc items n d) ≤ 11 + 96 * (dfsD items n d).length + 54 * sizeT (dfsD items n d)
  | 0, d => by
    have h3 := writeN_wt (hr.dir 0 d)
    have h5 : (dirN pc items 0 d).data.length = 0 ∧ (dirN pc items 0 d).parts.length = 0 ∧ (dirN pc items 0 d).ents.length = 0 := ⟨rfl, rfl, rfl⟩
    have h6 : wtN (nodesD pc items 0 d) = (writeN (dirN pc items 0 d)).length := by simp only [wtN, nodesD, List.map_cons, List.map_nil, List.sum_cons, List.sum_nil, Nat.add_zero]; rfl
    omega
  | n + 1, d => by
    have h3 := writeN_wt (hr.dir (n + 1) d)
    have h5 : (dirN pc items (n + 1) d).data.length = 0 ∧ (dirN pc items (n + 1) d).parts.length = 0 ∧ (dirN pc items (n + 1) d).ents.length = (inD items d).length := ⟨rfl, rfl, by simp [dirN]⟩
    have h6 : wtN [dirN pc items (n + 1) d] = (writeN (dirN pc items (n + 1) d)).length := by simp [wtN]
    rw [nodesD_succ, wtN_app, h6, dfsD_succ]
    have key : ∀ (l : List Itm), (∀ x ∈ l, x ∈ items) → wtN (nodesS pc items n l) + 74 * l.length ≤ 96 * (l.flatMap (fun x => x :: if x.2.1 = true then dfsD items n x.1 else [])).length + 54 * sizeT (l.flatMap (fun x => x :: if x.2.1 = true then dfsD items n x.1 else [])) := by
      intro l
      induction l with
      | nil => intro _; simp [wtN, nodesS, sizeT]
      | cons x l ih =>
        intro hl
        have h1 := ih (fun y hy => hl y (List.mem_cons_of_mem _ hy))
        have h2 := wt_dir hr n x.1
        have h4 := wt_file hr (hl x List.mem_cons_self)
        have e1 : nodesS pc items n (x :: l) = (if x.2.1 = true then nodesD pc items n x.1 else nodesF (pc x.2.2.2)) ++ nodesS pc items n l := by unfold nodesS; rw [List.flatMap_cons]
        rw [e1, wtN_app, List.flatMap_cons, List.length_append, sizeT_app, List.length_cons, List.length_cons, sizeT_cons]
        split
        · omega
        · simp only [List.length_nil, sizeT, List.map_nil, List.sum_nil]
          unfold sizeT at h1
          omega
    have := key (inD items d) (fun x hx => (mem_inD.1 hx).1)
    omega
theorem rawsL_objs (hr : Ready pc items) : rawsL (dirO pc items 9 [] []) ≤ 4000000 := by
  have h1 := rawsL_fold (nodesD pc items 9 []) []
  have h2 := wt_dir hr 9 []
  rw [dfs_is hr] at h2
  have h3 := hr.fit.len
  have h4 := hr.fit.size
  rw [dirO_fold]
  have h5 : rawsL [] = 0 := rfl
  omega
theorem objs_raw (hr : Ready pc items) {y : Snp} (hy : y ∈ dirO pc items 9 [] []) : y.2.length ≤ 100000 := by
  obtain ⟨n, _, rfl⟩ := obj_node hr hy
  exact writeN_len
end
end Go.Proofs.YtaompdnnkfmjhaaGreatDoor

namespace Go.Proofs.YtaompdnnkfmjhaaGreatDoor

def itA : Itm := ([97], false, false, [120])
theorem fitA : FitC 2 2 8 := by constructor <;> decide
theorem piecesA : piecesC 2 2 8 [120] = [[120]] := by
  have h1 := piecesC_flat (s := [120]) fitA
  have h2 := piecesC_each (s := [120]) fitA
  generalize piecesC 2 2 8 [120] = ps at *
  cases ps with
  | nil => simp at h1
  | cons p t =>
    have hp := (h2 p List.mem_cons_self).1
    cases p with
    | nil => simp at hp
    | cons a p =>
      rw [List.flatten_cons, List.cons_append] at h1
      injection h1 with e1 e2
      have e3 := List.append_eq_nil_iff.1 e2
      obtain ⟨rfl, e4⟩ := e3
      subst e1
      cases t with
      | nil => rfl
      | cons q t =>
        have hq := (h2 q (by simp)).1
        rw [List.flatten_cons] at e4
        rw [(List.append_eq_nil_iff.1 e4).1] at hq
        simp at hq
theorem readyA : Ready (piecesC 2 2 8) [itA] := by
  have hd : ∀ x ∈ [itA], x.2.2.2 = [120] := fun x hx => by rw [List.mem_singleton.1 hx]; rfl
  refine ⟨⟨by simp, by simp [upT], fun x hx => ?_, by simp [sizeT, itA]⟩, fun x hx t ht => ?_, fun x hx => ?_, fun x hx => ?_⟩
  · rw [List.mem_singleton.1 hx]; decide
  · rw [hd x hx] at ht; exact piecesC_each fitA t ht
  · rw [hd x hx, piecesA]; simp
  · rw [hd x hx]; exact piecesC_flat fitA
noncomputable def keyA : List UInt8 := keyN (dirN (piecesC 2 2 8) [itA] 9 [])
noncomputable def objA : List Snp := dirO (piecesC 2 2 8) [itA] 9 [] []
theorem nodesA : nodesD (piecesC 2 2 8) [itA] 9 [] = [pieceN [120], fileN [[120]], dirN (piecesC 2 2 8) [itA] 9 []] := by
  rw [nodesD_succ]
  have h1 : inD [itA] [] = [itA] := by decide
  rw [h1]
  unfold nodesS
  rw [List.flatMap_cons, List.flatMap_nil, List.append_nil, show itA.2.1 = false from rfl, if_neg (by simp), show itA.2.2.2 = [120] from rfl, piecesA]
  rfl
def r1A : List UInt8 := [1, 120]
def r2A : List UInt8 := 2 :: 1 :: (shaF r1A ++ [1])
def r3A : List UInt8 := 3 :: 1 :: 1 :: 97 :: 2 :: shaF r2A
theorem fitPA : FitN (pieceN [120]) := fit_piece (by decide) (by decide)
theorem fitFA : FitN (fileN [[120]]) := by
  have h := readyA.file (x := itA) (by simp)
  rwa [show itA.2.2.2 = [120] from rfl, piecesA] at h
theorem rawPA : writeN (pieceN [120]) = r1A := by
  unfold writeN
  rw [if_pos (fitN_iff.2 fitPA)]
  rfl
theorem rawFA : writeN (fileN [[120]]) = r2A := by
  unfold writeN
  rw [if_pos (fitN_iff.2 fitFA)]
  have hk : keyN (pieceN [120]) = shaF r1A := by rw [keyN_eq fitPA, rawPA]
  have hp : partN [120] = (shaF r1A, 1) := by unfold partN; rw [hk]; rfl
  have h1 : putV 1 = [1] := by rw [putV_small (by decide)]; rfl
  show UInt8.ofNat 2 :: (putV 1 ++ ([[120]].map partN).flatMap partW) = r2A
  rw [List.map_cons, List.map_nil, hp, List.flatMap_cons, List.flatMap_nil, List.append_nil, show partW (shaF r1A, 1) = shaF r1A ++ putV 1 from rfl, h1]
  rfl
theorem rawDA : writeN (dirN (piecesC 2 2 8) [itA] 9 []) = r3A := by
  unfold writeN
  rw [if_pos (fitN_iff.2 (readyA.dir 9 []))]
  have hk : keyN (fileN [[120]]) = shaF r2A := by rw [keyN_eq fitFA, rawFA]
  have h1 : inD [itA] [] = [itA] := by decide
  have he : (dirN (piecesC 2 2 8) [itA] 9 []).ents = [([97], 2, false, shaF r2A)] := by
    show (inD [itA] []).map _ = _
    rw [h1, List.map_cons, List.map_nil]
    unfold entK
    rw [show itA.2.1 = false from rfl, if_neg (by simp), if_neg (by simp), show itA.2.2.2 = [120] from rfl, piecesA, hk]
    rfl
  have hv : putV 1 = [1] := by rw [putV_small (by decide)]; rfl
  show UInt8.ofNat 3 :: (putV (dirN (piecesC 2 2 8) [itA] 9 []).ents.length ++ (dirN (piecesC 2 2 8) [itA] 9 []).ents.flatMap entW) = r3A
  rw [he, List.flatMap_cons, List.flatMap_nil, List.append_nil, List.length_singleton, hv]
  have ht : putText [97] = [1, 97] := by
    unfold putText
    simp [hv]
  unfold entW
  rw [ht]
  rfl
theorem shaB : ((shaF r1A == shaF r2A) || ((shaF r1A == shaF r3A) || (shaF r2A == shaF r3A))) = false := by kernel_rfl
theorem shaA : shaF r1A ≠ shaF r2A ∧ shaF r1A ≠ shaF r3A ∧ shaF r2A ≠ shaF r3A := by
  have h := shaB
  generalize shaF r1A = a at *
  generalize shaF r2A = b at *
  generalize shaF r3A = c at *
  simp only [Bool.or_eq_false_iff, beq_eq_false_iff_ne] at h
  exact ⟨h.1, h.2.1, h.2.2⟩
theorem noClashA : ¬ ClashP (rawsN (nodesD (piecesC 2 2 8) [itA] 9 [])) := by
  rw [nodesA]
  show ¬ ClashP [writeN (pieceN [120]), writeN (fileN [[120]]), writeN (dirN (piecesC 2 2 8) [itA] 9 [])]
  rw [rawPA, rawFA, rawDA]
  obtain ⟨h12, h13, h23⟩ := shaA
  generalize r1A = r1 at *
  generalize r2A = r2 at *
  generalize r3A = r3 at *
  rintro ⟨a, ha, b, hb, hne, he⟩
  simp only [List.mem_cons, List.not_mem_nil, or_false] at ha hb
  rcases ha with rfl | rfl | rfl <;> rcases hb with rfl | rfl | rfl <;> first | exact hne rfl | exact h12 he | exact h13 he | exact h23 he | exact h12 he.symm | exact h13 he.symm | exact h23 he.symm

theorem rawsL_objs2 {pc : List UInt8 → List (List UInt8)} {items : List Itm} (hr : Ready pc items) : rawsL (dirO pc items 9 [] []) ≤ 11 + 96 * items.length + 54 * sizeT items := by
  have h1 := rawsL_fold (nodesD pc items 9 []) []
  have h2 := wt_dir hr 9 []
  rw [dfs_is hr] at h2
  rw [dirO_fold]
  have h5 : rawsL [] = 0 := rfl
  omega
structure AwkT (key : List UInt8) (o : List Snp) : Prop where
  len : o.length = 3
  up : upS (namesR o)
  raw : ∀ x ∈ o, x.2.length ≤ 100000
  tot : rawsL o ≤ 1000
  all : ∀ x, Reached o (seedP [key]) x ↔ x ∈ namesR o
  ok : ∀ Q : List (List UInt8), (∀ x ∈ Q, x ∈ namesR o) → Q.all (okO o) = true
  rank : ∃ rank, RankK (kidsO o) rank
  key32 : key.length = 32
  top : key ∈ namesR o
theorem awkA : AwkT keyA objA := by
  have hns := nodesD_fit readyA 9 []
  have h1 := one_of_clash hns noClashA
  have hA := readyA.among 9 [] [] (.inl rfl) rfl ⟨rfl, by simp [namesR]⟩
  have hu := fit5_up12 hA.1
  have hk1 : keyN (pieceN [120]) = shaF r1A := by rw [keyN_eq fitPA, rawPA]
  have hk2 : keyN (fileN [[120]]) = shaF r2A := by rw [keyN_eq fitFA, rawFA]
  have hk3 : keyA = shaF r3A := by unfold keyA; rw [keyN_eq (readyA.dir 9 []), rawDA]
  have hmem : ∀ x, x ∈ namesR objA ↔ x ∈ [shaF r1A, shaF r2A, shaF r3A] := fun x => by
    unfold objA
    rw [dirO_fold]
    constructor
    · intro hx
      obtain ⟨y, hy, rfl⟩ := List.mem_map.1 hx
      rcases fold_mem _ hy with ⟨n, hn, rfl⟩ | hy
      · rw [nodesA] at hn
        simp only [List.mem_cons, List.not_mem_nil, or_false] at hn ⊢
        rcases hn with rfl | rfl | rfl
        · exact .inl hk1
        · exact .inr (.inl hk2)
        · exact .inr (.inr hk3)
      · cases hy
    · intro hx
      have hf := fold_key (o := []) _ rfl hns
      simp only [List.mem_cons, List.not_mem_nil, or_false] at hx
      rcases hx with rfl | rfl | rfl
      · rw [← hk1]; exact hf _ (by rw [nodesA]; simp)
      · rw [← hk2]; exact hf _ (by rw [nodesA]; simp)
      · rw [← hk3]; exact hf _ (by rw [nodesA]; simp)
  obtain ⟨h12, h13, h23⟩ := shaA
  have hlen : (namesR objA).length = 3 := by
    have hp : (namesR objA).Perm [shaF r1A, shaF r2A, shaF r3A] := (List.perm_ext_iff_of_nodup (up_nodup hu) (by simp [h12, h13, h23])).2 hmem
    exact hp.length_eq
  refine ⟨by rwa [namesR_len] at hlen, hu, fun x hx => objs_raw readyA hx, Nat.le_trans (rawsL_objs2 readyA) (by simp [sizeT, itA]), fun x => reach_all readyA h1 x, fun Q hq => reach_ok readyA h1 hq, ?_, keyN_len (readyA.dir 9 []), by rw [hmem, hk3]; simp⟩
  obtain ⟨rank, B, hr⟩ := good_ranked (good_dir 9 []) hns
  rw [← dirO_fold] at hr
  exact ⟨rank, hr.ranks⟩
end Go.Proofs.YtaompdnnkfmjhaaGreatDoor

namespace Go.Proofs.YtaompdnnkfmjhaaGreatDoor
open Go.RowKit

def wV (n : Nat) : Value := .int .u32 n
def bV (c : UInt8) : Value := .int .u8 (c.toNat : Nat)

section
variable {P : Program}
theorem run_index_agg (t e : TypeId) (n k : Nat) (cs : Array Value) (v : Value) (d : TypeDesc) (h : P.underlying t = some (.array n e)) (he : P.underlying e = some d) (hd : (match d with | .struct _ | .array _ _ => true | _ => false) = false)
    (hs : (P.info? e).map (·.size) = some 1) (hk : k < n) (hc : cs[k]? = some v) (w : World) :
    (Instr.index t (.agg cs) (.int .i64 k)).run P w = .ok v w := by
  have hagg : (isAgg e).run P w = .ok false w := by
    unfold isAgg
    rw [Sem.run_bind, run_underlying he w]
    cases d <;> simp_all
  have hk' : 0 ≤ (k : Int) ∧ (k : Int) < (n : Int) := ⟨by omega, by omega⟩
  cases hq : P.info? e with
  | none => simp [hq] at hs
  | some i =>
    have hi : i.size = 1 := by simpa [hq] using hs
    simp [Instr.index, run_underlying h, asIntOf, hk, part, hagg, sizeOf, typeInfo, hq, hi, hc]
/-- a whole array read out of a block. -/
theorem run_load_part (w : World) (g o : Nat) (ty : TypeId) (cs : List Value) (d : TypeDesc) (hc : ∀ j v, cs[j]? = some v → w.cell? ⟨g, o + j, none⟩ = some v)
    (hu : P.underlying ty = some d) (hd : (match d with | .struct _ | .array _ _ => true | _ => false) = true) (hi : (P.info? ty).map (·.size) = some cs.length) :
    (loadVar ty ⟨g, o, none⟩).run P w = .ok (.agg cs.toArray) w := by
  have hl : (loadCells ⟨g, o, none⟩ cs.length).run P w = .ok cs.toArray w :=
    run_loadCells_list (P := P) w ⟨g, o, none⟩ cs (fun j v hv => by
      have hadd : (⟨g, o, none⟩ : Addr).add j = ⟨g, o + j, none⟩ := by unfold Addr.add; split <;> simp_all
      rw [hadd]
      exact hc j v hv)
  cases hq : P.info? ty with
  | none => simp [hq] at hi
  | some i =>
    have hs : i.size = cs.length := by simpa [hq] using hi
    have hagg : (isAgg ty).run P w = .ok true w := by
      unfold isAgg
      rw [Sem.run_bind, run_underlying hu w]
      cases d <;> simp_all
    simp [loadVar, Sem.run_bind, hagg, sizeOf, typeInfo, hq, hs, hl]
theorem wpList_load_at {ops : Array Oper} {rest : List Oper} {o : Oper} {a : Act} {w : World} {Q : Exit → Act → World → Prop} (hgd : o.guard = none) (ty : TypeId) (x : Operand) (ho : o.op = .load ty x) (ad : Addr) (hx : a.eval x = .pointer (some ad)) (v : Value)
    (hr : (loadVar ty ad).run P w = .ok v w) (h : wpList P ops Q rest (a.put o.dst v) w) : wpList P ops Q (o :: rest) a w := by
  refine wpList_plain hgd fun K hK => ?_
  unfold Oper.wp execOp
  simp only [ho, hx, Instr.loadAt, Instr.sureAddr, Sem.run_bind, Sem.run_pure, Result.andThen_ok, hr]
  exact hK _ _ h
theorem wpQuiet_load {ops : Array Oper} {C : World → Prop} {Q : Act → Prop} {a : Act} {o : Oper} {rest : List Oper} (hg : o.guard = none) (ty : TypeId) (x : Operand) (ho : o.op = .load ty x) (ad : Addr) (hx : a.eval x = .pointer (some ad)) (v : Value)
    (hr : ∀ w, C w → (loadVar ty ad).run P w = .ok v w) (h : wpQuiet P ops C Q rest (a.put o.dst v)) : wpQuiet P ops C Q (o :: rest) a := by
  refine wpQuiet_step fun K hK => ?_
  have hw : Region.wanted o (yielded ops a.tmps) = true := by simp [Region.wanted, hg]
  rw [if_pos hw]
  refine ⟨v, fun w hw => ?_, hK _ h⟩
  unfold Oper.quietAt execOp
  simp only [ho, hx, Instr.loadAt, Instr.sureAddr, Sem.run_bind, Sem.run_pure, Result.andThen_ok, hr w hw]
  exact ⟨rfl, rfl⟩
/-- .. written into one, at its head. -/
theorem run_store_head (w : World) (g : Nat) (t : TypeId) (cur : List Value) (cs : List Value) (hg : w.heap[g]? = some (.cells cur.toArray t (0, 0))) (ho : cs.length ≤ cur.length) (h1 : ∀ v ∈ cs, v.oneCell' = true) :
    (storeCells ⟨g, 0, none⟩ cs).run P w = .ok () (w.setRow g (cs ++ cur.drop cs.length).toArray) := by
  have := run_storeCells_at P g 0 t cs 0 cur.toArray w hg (by simpa using ho) h1
  simpa using this
end

theorem heap_alloc3 (w : World) (A B C : Obj) : (((w.alloc A).alloc B).alloc C).heap[w.heap.size + 1 + 1]? = some C := by
  have := heap_alloc_new ((w.alloc A).alloc B) C
  simpa using this
/-- cells one behind the other in block g, and not frozen. -/
theorem arr_cell {w : World} {g : Nat} {cs : Array Value} {t : TypeId} (h : w.heap[g]? = some (.cells cs t (0, 0))) {i : Nat} {v : Value} (hv : cs[i]? = some v) : w.cell? ⟨g, i, none⟩ = some v := by
  rw [cell_of_row w g i cs t (0, 0) h]; exact hv
theorem map_at {α : Type} {f : α → Value} {l : List α} {i : Nat} (h : i < l.length) : (l.map f).toArray[i]? = some (f l[i]) := by simp [h]

/-- words, and zeros behind them: n in all. -/
def cellsW (n : Nat) (ws : List Nat) : Array Value := (ws.map wV ++ List.replicate (n - ws.length) (Value.int .u32 0)).toArray
theorem cellsW_size {n : Nat} {ws : List Nat} (h : ws.length ≤ n) : (cellsW n ws).size = n := by simp [cellsW]; omega
theorem cellsW_at {n : Nat} {ws : List Nat} {i : Nat} (h : i < ws.length) : (cellsW n ws)[i]? = some (wV ws[i]) := by
  simp [cellsW, List.getElem?_append_left, h]
theorem cellsW_zero {n : Nat} {ws : List Nat} {i : Nat} (h : ws.length ≤ i) (hn : i < n) : (cellsW n ws)[i]? = some (.int .u32 0) := by
  simp only [cellsW, List.getElem?_toArray]
  rw [List.getElem?_append_right (by simpa using h), List.getElem?_replicate, if_pos (by simp; omega)]
theorem cellsW_set {n : Nat} {ws : List Nat} (x : Nat) (h : ws.length < n) : (cellsW n ws).setIfInBounds ws.length (wV x) = cellsW n (ws ++ [x]) := by
  apply Array.ext'
  simp only [cellsW, Array.toList_setIfInBounds]
  rw [List.set_append_right _ _ (by simp), List.length_map, Nat.sub_self]
  obtain ⟨m, hm⟩ : ∃ m, n - ws.length = m + 1 := ⟨n - ws.length - 1, by omega⟩
  rw [hm, List.replicate_succ, List.set_cons_zero, List.map_append, List.length_append, List.length_singleton, show n - (ws.length + 1) = m by omega, List.append_assoc]
  rfl
theorem cellsW_all {n : Nat} {ws : List Nat} (h : ws.length = n) : cellsW n ws = (ws.map wV).toArray := by
  simp [cellsW, h]
theorem one_map {α : Type} {f : α → Value} (hf : ∀ x, (f x).oneCell' = true) (l : List α) : (l.map f).toArray.all (·.oneCell') = true := by
  simp [hf]
/-- a word of a row of words turns. -/
theorem arr_set {w w0 : World} {B g i x : Nat} {ws : List Nat} {t : TypeId} (h : w.heap[g]? = some (.cells (ws.map wV).toArray t (0, 0))) (hb : Below B w0 w) (hB : B ≤ g) :
    (w.setCell ⟨g, i, none⟩ (wV x)).heap[g]? = some (.cells ((ws.set i x).map wV).toArray t (0, 0)) ∧ Below B w0 (w.setCell ⟨g, i, none⟩ (wV x)) := by
  refine ⟨?_, hb.setCell (p := ⟨g, i, none⟩) hB _⟩
  rw [heap_setCell_same w g i _ t _ h, List.map_set]
  simp
theorem arr_frozen {w : World} {g i : Nat} {cs : Array Value} {t : TypeId} (h : w.heap[g]? = some (.cells cs t (0, 0))) : w.frozen? ⟨g, i, none⟩ = false := frozen_of_row w g i cs t h
theorem or_val {x c k : Nat} (hx : x < 4294967296) (hc : c < 256) : bits BinOp.or IntKind.u32 (x : Int) ((c : Int) % 4294967296 * 2 ^ (24 - 8 * (k % 4)) % 4294967296) = ((x ||| c * 2 ^ (24 - 8 * (k % 4)) : Nat) : Int) := by
  have h2 : c * 2 ^ (24 - 8 * (k % 4)) < 4294967296 := by
    have : 2 ^ (24 - 8 * (k % 4)) ≤ 2 ^ 24 := Nat.pow_le_pow_right (by decide) (by omega)
    calc c * 2 ^ (24 - 8 * (k % 4)) ≤ 255 * 2 ^ 24 := Nat.mul_le_mul (by omega) this
      _ < 4294967296 := by decide
  have e : (c : Int) % 4294967296 * 2 ^ (24 - 8 * (k % 4)) % 4294967296 = ((c * 2 ^ (24 - 8 * (k % 4)) : Nat) : Int) := by
    rw [show (c : Int) % 4294967296 = (c : Int) by omega, cast_lo, Nat.mod_eq_of_lt h2]
  rw [e, u32_or_nat _ _ hx h2]
/-- .. the first of the zeros. -/
theorem arr_push {w w0 : World} {B g x n : Nat} {ws : List Nat} {t : TypeId} (h : w.heap[g]? = some (.cells (cellsW n ws) t (0, 0))) (hn : ws.length < n) (hb : Below B w0 w) (hB : B ≤ g) :
    (w.setCell ⟨g, ws.length, none⟩ (wV x)).heap[g]? = some (.cells (cellsW n (ws ++ [x])) t (0, 0)) ∧ Below B w0 (w.setCell ⟨g, ws.length, none⟩ (wV x)) := by
  refine ⟨?_, hb.setCell (p := ⟨g, ws.length, none⟩) hB _⟩
  rw [heap_setCell_same w g _ _ t _ h, cellsW_set x hn]
theorem arr_push' {w : World} {g x n : Nat} {ws : List Nat} {t : TypeId} (h : w.heap[g]? = some (.cells (cellsW n ws) t (0, 0))) (hn : ws.length < n) :
    (w.setCell ⟨g, ws.length, none⟩ (wV x)).heap[g]? = some (.cells (cellsW n (ws ++ [x])) t (0, 0)) := by
  rw [heap_setCell_same w g _ _ t _ h, cellsW_set x hn]
theorem laid_row (w : World) (A cs : Array Value) (t : TypeId) : ((w.alloc (.cells A t)).setRow w.heap.size cs).heap[w.heap.size]? = some (.cells cs t (0, 0)) ∧ Below w.heap.size w ((w.alloc (.cells A t)).setRow w.heap.size cs) :=
  ⟨setRow_heap _ _ _ _ _ _ (heap_alloc_new _ _), below_setRow ((Below.refl _ _).alloc (Nat.le_refl _) _) (Nat.le_refl _) _⟩
/-- eight words in memory. -/
theorem box8 {w : World} {g : Nat} {t : TypeId} {v : H8} (h : w.heap[g]? = some (.cells (v.words.map wV).toArray t (0, 0))) :
    (w.cell? ⟨g, 0, none⟩ = some (.int .u32 (v.a : Nat)) ∧ w.cell? ⟨g, 1, none⟩ = some (.int .u32 (v.b : Nat)) ∧ w.cell? ⟨g, 2, none⟩ = some (.int .u32 (v.c : Nat)) ∧ w.cell? ⟨g, 3, none⟩ = some (.int .u32 (v.d : Nat)) ∧ w.cell? ⟨g, 4, none⟩ = some (.int .u32 (v.e : Nat)) ∧ w.cell? ⟨g, 5, none⟩ = some (.int .u32 (v.f : Nat)) ∧ w.cell? ⟨g, 6, none⟩ = some (.int .u32 (v.g : Nat)) ∧ w.cell? ⟨g, 7, none⟩ = some (.int .u32 (v.h : Nat))) :=
  ⟨arr_cell h rfl, arr_cell h rfl, arr_cell h rfl, arr_cell h rfl, arr_cell h rfl, arr_cell h rfl, arr_cell h rfl, arr_cell h rfl⟩
theorem set_at {w : World} {g : Nat} {t : TypeId} {l : List Value} (h : w.heap[g]? = some (.cells l.toArray t (0, 0))) (i : Nat) (x : Value) : (w.setCell ⟨g, i, none⟩ x).heap[g]? = some (.cells (l.set i x).toArray t (0, 0)) := by
  rw [heap_setCell_same w g i _ t x h]
  simp
/-- all eight turned, the last one first. -/
theorem set8 {w : World} {g : Nat} {t : TypeId} {v : H8} (h : w.heap[g]? = some (.cells (v.words.map wV).toArray t (0, 0))) (x0 x1 x2 x3 x4 x5 x6 x7 : Value) :
    ((((((((w.setCell ⟨g, 7, none⟩ x7).setCell ⟨g, 6, none⟩ x6).setCell ⟨g, 5, none⟩ x5).setCell ⟨g, 4, none⟩ x4).setCell ⟨g, 3, none⟩ x3).setCell ⟨g, 2, none⟩ x2).setCell ⟨g, 1, none⟩ x1).setCell ⟨g, 0, none⟩ x0).heap[g]? = some (.cells [x0, x1, x2, x3, x4, x5, x6, x7].toArray t (0, 0)) := by
  have h' := set_at (set_at (set_at (set_at (set_at (set_at (set_at (set_at h 7 x7) 6 x6) 5 x5) 4 x4) 3 x3) 2 x2) 1 x1) 0 x0
  simp only [H8.words, List.map_cons, List.map_nil, List.set_cons_succ, List.set_cons_zero] at h'
  exact h'
theorem gro_set8 {w0 w : World} {g : Nat} (h : Gro g w0 w) (x0 x1 x2 x3 x4 x5 x6 x7 : Value) :
    Gro g w0 ((((((((w.setCell ⟨g, 7, none⟩ x7).setCell ⟨g, 6, none⟩ x6).setCell ⟨g, 5, none⟩ x5).setCell ⟨g, 4, none⟩ x4).setCell ⟨g, 3, none⟩ x3).setCell ⟨g, 2, none⟩ x2).setCell ⟨g, 1, none⟩ x1).setCell ⟨g, 0, none⟩ x0) :=
  gro_set (gro_set (gro_set (gro_set (gro_set (gro_set (gro_set (gro_set h 7 _) 6 _) 5 _) 4 _) 3 _) 2 _) 1 _) 0 _
/-- bytes, and zeros behind them: n in all. -/
def cellsBy (n : Nat) (bs : List UInt8) : Array Value := (bs.map bV ++ List.replicate (n - bs.length) (Value.int .u8 0)).toArray
theorem cellsBy_zero {n : Nat} {ws : List UInt8} {i : Nat} (h : ws.length ≤ i) (hn : i < n) : (cellsBy n ws)[i]? = some (.int .u8 0) := by
  simp only [cellsBy, List.getElem?_toArray]
  rw [List.getElem?_append_right (by simpa using h), List.getElem?_replicate, if_pos (by simp; omega)]
theorem cellsBy_set {n : Nat} {ws : List UInt8} (x : UInt8) (h : ws.length < n) : (cellsBy n ws).setIfInBounds ws.length (bV x) = cellsBy n (ws ++ [x]) := by
  apply Array.ext'
  simp only [cellsBy, Array.toList_setIfInBounds]
  rw [List.set_append_right _ _ (by simp), List.length_map, Nat.sub_self]
  obtain ⟨m, hm⟩ : ∃ m, n - ws.length = m + 1 := ⟨n - ws.length - 1, by omega⟩
  rw [hm, List.replicate_succ, List.set_cons_zero, List.map_append, List.length_append, List.length_singleton, show n - (ws.length + 1) = m by omega, List.append_assoc]
  rfl
theorem cellsBy_all {n : Nat} {ws : List UInt8} (h : ws.length = n) : cellsBy n ws = (ws.map bV).toArray := by
  simp [cellsBy, h]
theorem arr_pushB {w : World} {g n : Nat} {x : UInt8} {ws : List UInt8} {t : TypeId} (h : w.heap[g]? = some (.cells (cellsBy n ws) t (0, 0))) (hn : ws.length < n) :
    (w.setCell ⟨g, ws.length, none⟩ (bV x)).heap[g]? = some (.cells (cellsBy n (ws ++ [x])) t (0, 0)) := by
  rw [heap_setCell_same w g _ _ t _ h, cellsBy_set x hn]
end Go.Proofs.YtaompdnnkfmjhaaGreatDoor
