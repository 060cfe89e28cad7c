/- fetch.Tree. How many bytes a tree's objects have: plain. -/
import Derived.Test.YtkejdbidomlonaaGreatDoorPEnt13
import Derived.Test.YtkejdbidomlonaaGreatDoorJFetchB
namespace Go.Proofs.YtkejdbidomlonaaGreatDoor
open Go.RowKit

theorem fdir_all (W0 : World) (b : Nat) (la : Option Addr) (lc : Nat) (o : List Snp) (ho : SnpRow W0 (.slice la o.length lc) o) (hT : ErrT W0) (hup : upS (namesR o)) (hol : o.length ≤ 1100000) (hraw : ∀ x ∈ o, x.2.length ≤ 1000000) : ∀ n, DirOK W0 b la lc o n := by
  intro n
  induction n with
  | zero =>
    intro key d st ov w hd hn
    exfalso
    rcases hd with rfl | hd
    · simp [deepD] at hn
    · have := (deep_step hd).2; omega
  | succ n ih => exact fdir_of W0 b la lc o n ho hT hup hol hraw (fent_of W0 b la lc o n ho hT hup hol hraw ih)

/-- What fetch.Tree tells. -/
noncomputable def toldC (o : List Snp) (key : List UInt8) : List Itm × Int := if (dirC o 9 key [] ([], 0)).2 = 0 then ((dirC o 9 key [] ([], 0)).1.1, 0) else ([], (dirC o 9 key [] ([], 0)).2)
theorem told_code {o : List Snp} {key : List UInt8} {c : Int} (h : (dirC o 9 key [] ([], 0)).2 = c) (hc : c ≠ 0) : toldC o key = ([], c) := by
  unfold toldC
  rw [h, if_neg hc]

set_option maxHeartbeats 4000000 in
set_option maxRecDepth 100000 in
theorem tree13_walk (lv : Value) (o : List Snp) (key : List UInt8) (w : World) (ho : SnpRow w lv o) (hT : ErrT w) (hup : upS (namesR o)) (hol : o.length ≤ 1100000) (hraw : ∀ x ∈ o, x.2.length ≤ 1000000) :
    Calls Tryz.prog 9 #[lv, S key] w fun e w' => ∃ mv, e = .returned (.tuple #[mv, .int .i64 (toldC o key).2]) ∧ ItRow w' mv (toldC o key).1 ∧ Below w.heap.size w w' := by
  have HO := Lib.hid ho
  obtain ⟨la, lc, rfl, -⟩ := ho
  obtain ⟨w1, hw1, hb1, hf1⟩ : ∃ w1, w1 = w.alloc (.cells #[.slice la o.length lc, .slice none 0 0, .int .i64 0] 55) ∧ Below w.heap.size w w1 ∧ w1.heap[w.heap.size]? = some (.cells #[.slice la o.length lc, .slice none 0 0, .int .i64 0] 55 (0, 0)) :=
    ⟨_, rfl, (Below.refl _ _).alloc (Nat.le_refl _) _, heap_alloc_new _ _⟩
  have HS1 : FSt w.heap.size w.heap.size w1 la lc o (.slice none 0 0) ([], 0) := ⟨hf1, World.ownsRow_nil _ _ _ _, Nat.le_refl _⟩
  have C : Calls Tryz.prog 23 #[.pointer (some ⟨w.heap.size, 0, none⟩), S key, .string ⟨#[]⟩] w1 _ := fdir_all w w.heap.size la lc o HO.out hT hup hol hraw 9 key [] ([], 0) (.slice none 0 0) w1 (.inl rfl) rfl hb1 HS1 (by simp) (by simp)
  have HB1 := Lib.hid hb1
  have HTC := Lib.hid (show toldC o key = if (dirC o 9 key [] ([], 0)).2 = 0 then ((dirC o 9 key [] ([], 0)).1.1, 0) else ([], (dirC o 9 key [] ([], 0)).2) from rfl)
  clear hraw hT hb1 hf1 HS1
  generalize dirC o 9 key [] ([], 0) = r at *
  generalize toldC o key = tc at *
  go_enter Tryz.func9, Tryz.ntmps9
  go_upto_region 2 with fail
  rw [← hw1]
  clear hw1
  go_wp2_with fail
  refine C.mono ?_
  rintro e w2 ⟨ev, v2, rfl, hs2, hg2, her⟩
  have HB2 := Lib.hid (show Below w.heap.size w w2 from hg2.base HB1.out HB1.out.size (Nat.le_refl _) (fun j hj => by simp [Value.ownBlock] at hj))
  have HR2 := Lib.hid (show ItRow w2 v2 r.1.1 from Row.of_ownsK itC_len hs2.own)
  rcases her with ⟨hr0, rfl⟩ | ⟨hr0, hmem, g, _, rfl, hg0⟩
  · have HRR := Lib.hid (show tc = (r.1.1, 0) by rw [HTC.out, if_pos hr0])
    have c1 := heap_cell hs2.box (j := 1) (v := v2) rfl
    obtain ⟨ra, rc, rfl⟩ := row_slice HR2.out
    clear C hs2 hg2 hr0
    go_wp2
    go_ret2
    exact ⟨_, by rw [HRR.out]; rfl, by rw [HRR.out]; exact HR2.out, HB2.out⟩
  · have hg := heap_cell hg0 (j := 0) (v := .int .i64 r.2) rfl
    have HRR := Lib.hid (show tc = ([], r.2) by rw [HTC.out, if_neg hr0])
    have CN := fnumber_walk g r.2 w2 hg hmem
    clear C hs2 hg2 hr0 hmem hg0
    go_wp2_with fail
    refine CN.mono ?_
    rintro e w3 ⟨rfl, hb3⟩
    have HB3 := Lib.hid (below_chain HB2.out hb3 HB2.out.size)
    clear CN hb3 hg
    go_wp2
    go_ret2
    exact ⟨_, by rw [HRR.out]; rfl, by rw [HRR.out]; exact Row.nil _ _, HB3.out⟩
end Go.Proofs.YtkejdbidomlonaaGreatDoor

namespace Go.Proofs.YtkejdbidomlonaaGreatDoor

theorem rawsL_app (a b : List Snp) : rawsL (a ++ b) = rawsL a + rawsL b := by simp [rawsL]
theorem rawsL_ins (l : List Snp) (x : Snp) : rawsL (insR l x) = rawsL l + x.2.length := by
  unfold insR
  have h := congrArg rawsL (List.takeWhile_append_dropWhile (p := fun y => !decide (x.1 < y.1)) (l := l))
  rw [rawsL_app] at h
  rw [rawsL_app, show rawsL (x :: l.dropWhile (fun y => !decide (x.1 < y.1))) = x.2.length + rawsL (l.dropWhile (fun y => !decide (x.1 < y.1))) by simp [rawsL]]
  omega
theorem rawsL_add (l : List Snp) (x : Snp) : rawsL (addO l x) ≤ rawsL l + x.2.length := by
  unfold addO
  split
  · omega
  · rw [rawsL_ins]; omega
noncomputable def wtN (l : List Nod) : Nat := (l.map (fun n => (writeN n).length)).sum
theorem wtN_app (a b : List Nod) : wtN (a ++ b) = wtN a + wtN b := by simp [wtN]
theorem rawsL_fold : ∀ (l : List Nod) (o : List Snp), rawsL (l.foldl putN o) ≤ rawsL o + wtN l
  | [], o => by simp [wtN]
  | n :: l, o => by
    have h1 := rawsL_fold l (putN o n)
    have h2 : rawsL (putN o n) ≤ rawsL o + (writeN n).length := rawsL_add o (keyN n, writeN n)
    have h3 : wtN (n :: l) = (writeN n).length + wtN l := by simp [wtN]
    rw [List.foldl_cons]
    omega
theorem writeN_wt {n : Nod} (hf : FitN n) : (writeN n).length ≤ 11 + n.data.length + 42 * n.parts.length + 74 * n.ents.length := by
  unfold writeN
  rw [if_pos (fitN_iff.2 hf)]
  obtain ⟨kd, d, ps, es⟩ := n
  rcases hf with ⟨h1, h2, h3, h4, h5⟩ | ⟨h1, h2, h3, h4⟩ | ⟨h1, h2, h3, h4⟩
  · simp only at h1 h3; subst h1
    show (_ :: d).length ≤ _
    rw [List.length_cons]; simp; omega
  · simp only at h1 h4; subst h1
    show (_ :: (putV ps.length ++ ps.flatMap partW)).length ≤ _
    have h6 := putV_len (n := ps.length) (by have := h4.len; omega)
    have h7 := flat_bound (f := partW) (B := 42) (l := ps) (fun x hx => partW_len (h4.ok x hx))
    rw [List.length_cons, List.length_append]; simp only; omega
  · simp only at h1 h4; subst h1
    show (_ :: (putV es.length ++ es.flatMap entW)).length ≤ _
    have h6 := putV_len (n := es.length) (by have := h4.len; omega)
    have h7 := flat_bound (f := entW) (B := 74) (l := es) (fun x hx => entW_len (h4.ok x hx))
    rw [List.length_cons, List.length_append]; simp only; omega
section
variable {pc : List UInt8 → List (List UInt8)} {items : List Itm}
theorem wt_pieces : ∀ (ps : List (List UInt8)), (∀ s ∈ ps, 1 ≤ s.length ∧ s.length ≤ 4096) → wtN (ps.map pieceN) ≤ 12 * ps.flatten.length ∧ ps.length ≤ ps.flatten.length
  | [], _ => by simp [wtN]
  | s :: ps, h => by
    obtain ⟨h1, h2⟩ := wt_pieces ps (fun t ht => h t (List.mem_cons_of_mem _ ht))
    have h3 := h s List.mem_cons_self
    have h4 := writeN_wt (fit_piece h3.1 h3.2)
    have h5 : (pieceN s).data.length = s.length ∧ (pieceN s).parts.length = 0 ∧ (pieceN s).ents.length = 0 := ⟨rfl, rfl, rfl⟩
    have h6 : wtN ((s :: ps).map pieceN) = (writeN (pieceN s)).length + wtN (ps.map pieceN) := by simp [wtN]
    rw [h6, List.flatten_cons, List.length_append, List.length_cons]
    omega
theorem wt_file (hr : Ready pc items) {x : Itm} (hx : x ∈ items) : wtN (nodesF (pc x.2.2.2)) ≤ 11 + 54 * x.2.2.2.length := by
  have hfl := hr.flat x hx
  obtain ⟨h1, h2⟩ := wt_pieces (pc x.2.2.2) (hr.each x hx)
  rw [hfl] at h1 h2
  have h3 := writeN_wt (hr.file hx)
  have h5 : (fileN (pc x.2.2.2)).data.length = 0 ∧ (fileN (pc x.2.2.2)).parts.length = (pc x.2.2.2).length ∧ (fileN (pc x.2.2.2)).ents.length = 0 := ⟨rfl, by simp [fileN], rfl⟩
  have h6 : wtN [fileN (pc x.2.2.2)] = (writeN (fileN (pc x.2.2.2))).length := by simp [wtN]
  unfold nodesF
  rw [wtN_app, h6]
  omega
theorem wt_dir (hr : Ready pc items) : ∀ (n : Nat) (d : List UInt8), wtN (nodesD pc items n d) ≤ 11 + 96 * (dfsD items n d).length + 54 * sizeT (dfsD items n d)
  | 0, d => by
    have h3 := writeN_wt (hr.dir 0 d)
    have h5 : (dirN pc items 0 d).data.length = 0 ∧ (dirN pc items 0 d).parts.length = 0 ∧ (dirN pc items 0 d).ents.length = 0 := ⟨rfl, rfl, rfl⟩
    have h6 : wtN (nodesD pc items 0 d) = (writeN (dirN pc items 0 d)).length := by simp only [wtN, nodesD, List.map_cons, List.map_nil, List.sum_cons, List.sum_nil, Nat.add_zero]; rfl
    omega
  | n + 1, d => by
    have h3 := writeN_wt (hr.dir (n + 1) d)
    have h5 : (dirN pc items (n + 1) d).data.length = 0 ∧ (dirN pc items (n + 1) d).parts.length = 0 ∧ (dirN pc items (n + 1) d).ents.length = (inD items d).length := ⟨rfl, rfl, by simp [dirN]⟩
    have h6 : wtN [dirN pc items (n + 1) d] = (writeN (dirN pc items (n + 1) d)).length := by simp [wtN]
    rw [nodesD_succ, wtN_app, h6, dfsD_succ]
    have key : ∀ (l : List Itm), (∀ x ∈ l, x ∈ items) → wtN (nodesS pc items n l) + 74 * l.length ≤ 96 * (l.flatMap (fun x => x :: if x.2.1 = true then dfsD items n x.1 else [])).length + 54 * sizeT (l.flatMap (fun x => x :: if x.2.1 = true then dfsD items n x.1 else [])) := by
      intro l
      induction l with
      | nil => intro _; simp [wtN, nodesS, sizeT]
      | cons x l ih =>
        intro hl
        have h1 := ih (fun y hy => hl y (List.mem_cons_of_mem _ hy))
        have h2 := wt_dir hr n x.1
        have h4 := wt_file hr (hl x List.mem_cons_self)
        have e1 : nodesS pc items n (x :: l) = (if x.2.1 = true then nodesD pc items n x.1 else nodesF (pc x.2.2.2)) ++ nodesS pc items n l := by unfold nodesS; rw [List.flatMap_cons]
        rw [e1, wtN_app, List.flatMap_cons, List.length_append, sizeT_app, List.length_cons, List.length_cons, sizeT_cons]
        split
        · omega
        · simp only [List.length_nil, sizeT, List.map_nil, List.sum_nil]
          unfold sizeT at h1
          omega
    have := key (inD items d) (fun x hx => (mem_inD.1 hx).1)
    omega
theorem rawsL_objs (hr : Ready pc items) : rawsL (dirO pc items 9 [] []) ≤ 4000000 := by
  have h1 := rawsL_fold (nodesD pc items 9 []) []
  have h2 := wt_dir hr 9 []
  rw [dfs_is hr] at h2
  have h3 := hr.fit.len
  have h4 := hr.fit.size
  rw [dirO_fold]
  have h5 : rawsL [] = 0 := rfl
  omega
theorem objs_raw (hr : Ready pc items) {y : Snp} (hy : y ∈ dirO pc items 9 [] []) : y.2.length ≤ 100000 := by
  obtain ⟨n, _, rfl⟩ := obj_node hr hy
  exact writeN_len
end
end Go.Proofs.YtkejdbidomlonaaGreatDoor
