/- The program's node of bytes. -/
import Derived.Test.YtengciicdnkgaaaGreatDoorPNode11
import Derived.Test.YtengciicdnkgaaaGreatDoorAs11
namespace Go.Proofs.YtengciicdnkgaaaGreatDoor
open Go.RowKit

/-- What the library's variable of the type error holds. -/
def ErrT (w : World) : Prop := w.cell? ⟨0, 0, none⟩ = some (.iface 152 (.agg #[.pointer (some ⟨2, 89, none⟩)]))
theorem ErrT.below {w w' : World} (h : ErrT w) (hb : Below w.heap.size w w') : ErrT w' := cell_below hb h
theorem as_walk (e b : Nat) (old : Value) (w : World) (hg : ErrT w) (hb : w.heap[b]? = some (.cells #[old] 95 (0, 0))) :
    Calls Tryz.prog 61 #[.iface 95 (.pointer (some ⟨e, 0, none⟩)), .iface 97 (.pointer (some ⟨b, 0, none⟩))] w fun ev w' => ev = .returned (.bool true) ∧ Gro b w w' := by
  refine (as_hit ⟨e, 0, none⟩ ⟨b, 0, none⟩ old w hg (heap_cell hb (j := 0) rfl) (heap_free hb 0)).mono ?_
  rintro ev w' ⟨h1, rfl⟩
  have hB : ∀ (W : World) (o : Obj), Gro b w W → Gro b w (W.alloc o) := fun W o h => gro_chain h ((Below.refl _ _).alloc (Nat.le_refl _) o)
  exact ⟨h1, gro_set (hB _ _ (hB _ _ (hB _ _ (hB _ _ (World.grownBy.refl _ _))))) 0 _⟩

/-- What Read leaves. -/
def ReadPost (s : List UInt8) (w : World) (e : Ending) (w' : World) : Prop :=
  ∃ (vp ve : Value), e = .returned (.tuple #[NodV (readN s).1 vp ve, .int .i64 (readN s).2]) ∧ NodRow w' (readN s).1 vp ve ∧ Below w.heap.size w w'

set_option maxHeartbeats 4000000 in
set_option maxRecDepth 100000 in
theorem pread11_walk (s : List UInt8) (w : World) (hT : ErrT w) (hs : s.length ≤ 1000000) :
    Calls Tryz.prog 43 #[S s] w (ReadPost s w) := by
  have HT := Lib.hid hT
  clear hT
  obtain ⟨w1, hw1, hb1, hz1⟩ : ∃ w1, w1 = w.alloc (.cells #[.int .i64 0, .string ⟨#[]⟩, .slice none 0 0, .slice none 0 0] 54) ∧ Below w.heap.size w w1 ∧ w1.heap[w.heap.size]? = some (.cells #[.int .i64 0, .string ⟨#[]⟩, .slice none 0 0, .slice none 0 0] 54 (0, 0)) :=
    ⟨_, rfl, (Below.refl _ _).alloc (Nat.le_refl _) _, heap_alloc_new _ _⟩
  obtain ⟨w2, hw2, hb2, hz2, hg2, hsz⟩ : ∃ w2, w2 = w1.alloc (.cells #[S s, .nilIface] 93) ∧ Below w1.heap.size w1 w2 ∧ w2.heap[w.heap.size]? = some (.cells #[.int .i64 0, .string ⟨#[]⟩, .slice none 0 0, .slice none 0 0] 54 (0, 0)) ∧ RdAt w2 w1.heap.size s true ∧ w.heap.size < w1.heap.size :=
    ⟨_, rfl, (Below.refl _ _).alloc (Nat.le_refl _) _, (((Below.refl _ _).alloc (Nat.le_refl _) _).block _ (heap_lt hz1)).trans hz1, ⟨.nilIface, heap_alloc_new _ _, .inl ⟨rfl, rfl⟩⟩, heap_lt hz1⟩
  have hB2 := below_chain hb1 hb2 hb1.size
  have CN := node_walk w1.heap.size s w2 hg2 hs
  have hgs : w1.heap.size < w2.heap.size := by obtain ⟨_, h1, _⟩ := hg2; exact heap_lt h1
  clear hb1 hb2 hg2
  go_enter Tryz.func43, Tryz.ntmps43
  go_upto_region 1 with fail
  rw [← hw1]
  clear hw1
  go_wp2_with fail
  rw [← hw2]
  refine CN.mono ?_
  rintro e w3 ⟨n, vp, ve, ev, ok, rfl, hev, hrow, hvb, hg3, hyes, hno⟩
  have hz3 := (hg3.block _ (heap_lt hz2) (by simp; omega)).trans hz2
  have hB3 : Below w.heap.size w w3 := hB2.trans (gro_below hg3 (by omega) (by omega))
  obtain ⟨va, vc, rfl⟩ := row_slice hrow.parts
  obtain ⟨ua, uc, rfl⟩ := row_slice hrow.ents
  obtain ⟨w4, hw4, hn4, hz4, hB4, hb34⟩ : ∃ w4, w4 = w3.alloc (.cells #[.int .i64 n.kind, S n.data, .slice va n.parts.length vc, .slice ua n.ents.length uc] 54) ∧ w4.heap[w3.heap.size]? = some (.cells #[.int .i64 n.kind, S n.data, .slice va n.parts.length vc, .slice ua n.ents.length uc] 54 (0, 0)) ∧ w4.heap[w.heap.size]? = some (.cells #[.int .i64 0, .string ⟨#[]⟩, .slice none 0 0, .slice none 0 0] 54 (0, 0)) ∧ Below w.heap.size w w4 ∧ Below w3.heap.size w3 w4 :=
    ⟨_, rfl, heap_alloc_new _ _, (((Below.refl _ _).alloc (Nat.le_refl _) _).block _ (heap_lt hz3)).trans hz3, hB3.alloc hB3.size _, (Below.refl _ _).alloc (Nat.le_refl _) _⟩
  obtain ⟨w5, hw5, hn5, hz5, ht5, hB5, hb45, hs45⟩ : ∃ w5, w5 = w4.alloc (.cells #[.pointer none] 95) ∧ w5.heap[w3.heap.size]? = some (.cells #[.int .i64 n.kind, S n.data, .slice va n.parts.length vc, .slice ua n.ents.length uc] 54 (0, 0)) ∧ w5.heap[w.heap.size]? = some (.cells #[.int .i64 0, .string ⟨#[]⟩, .slice none 0 0, .slice none 0 0] 54 (0, 0)) ∧ w5.heap[w4.heap.size]? = some (.cells #[.pointer none] 95 (0, 0)) ∧ Below w.heap.size w w5 ∧ Below w4.heap.size w4 w5 ∧ w.heap.size < w4.heap.size :=
    ⟨_, rfl, (((Below.refl _ _).alloc (Nat.le_refl _) _).block _ (heap_lt hn4)).trans hn4, (((Below.refl _ _).alloc (Nat.le_refl _) _).block _ (heap_lt hz4)).trans hz4, heap_alloc_new _ _, hB4.alloc hB4.size _, (Below.refl _ _).alloc (Nat.le_refl _) _, heap_lt hz4⟩
  have hrow5 := (hrow.below hb34).below hb45
  have hT5 := HT.out.below hB5
  have hvz : ∀ j, (Value.slice va n.parts.length vc).ownBlock = some j → w.heap.size ≠ j := fun j hj => by have := hvb.1 j hj; omega
  have hvz2 : ∀ j, (Value.slice ua n.ents.length uc).ownBlock = some j → w.heap.size ≠ j := fun j hj => by have := hvb.2 j hj; omega
  clear hvb
  clear CN hg3 hz3 hB3 hz2 hB2 hz1 hz4 hB4 hn4 hrow hb34 hb45
  go_upto_region 2 with fail
  rw [← hw4]
  clear hw4
  go_upto_region 3 with fail
  rw [← hw5]
  clear hw5
  rcases hev with ⟨rfl, rfl⟩ | ⟨rfl, b, rfl⟩
  · have hres := hyes rfl
    obtain ⟨⟨n0, n1, n2, n3⟩, -, -⟩ := box4 hn5
    obtain ⟨⟨c0, c1, c2, c3⟩, ⟨f0, f1, f2, f3⟩, ⟨q0, q1, q2, q3⟩⟩ := box4 hz5
    obtain ⟨w9, hw9, hz9, hB9, hrow9⟩ : ∃ w9, w9 = (((w5.setCell ⟨w.heap.size, 0, none⟩ (.int .i64 n.kind)).setCell ⟨w.heap.size, 1, none⟩ (S n.data)).setCell ⟨w.heap.size, 2, none⟩ (.slice va n.parts.length vc)).setCell ⟨w.heap.size, 3, none⟩ (.slice ua n.ents.length uc) ∧ w9.heap[w.heap.size]? = some (.cells #[.int .i64 n.kind, S n.data, .slice va n.parts.length vc, .slice ua n.ents.length uc] 54 (0, 0)) ∧ Below w.heap.size w w9 ∧ Hid (NodRow w9 n (.slice va n.parts.length vc) (.slice ua n.ents.length uc)) := by
      exact ⟨_, rfl, heap_set_cell (heap_set_cell (heap_set_cell (heap_set_cell hz5 _) _) _) _, below_setT (below_setT (below_setT (below_setT hB5 (Nat.le_refl _) _ _) (Nat.le_refl _) _ _) (Nat.le_refl _) _ _) (Nat.le_refl _) _ _,
        Lib.hid (nod_other (nod_other (nod_other (nod_other hrow5 hvz hvz2 _ _) hvz hvz2 _ _) hvz hvz2 _ _) hvz hvz2 _ _)⟩
    have HRES := Lib.hid hres
    have HB9 := Lib.hid hB9
    clear hn5 hz5 hres hB9 hB5 ht5 hyes hno
    go_wp2_with (go_at_call 61; refine (as_nil _ _).mono ?_; rintro e w6 ⟨rfl, rfl⟩)
    rw [← hw9]
    obtain ⟨⟨x0, x1, x2, x3⟩, -, -⟩ := box4 hz9
    refine bodyPost_ret (v := .tuple #[NodV n (.slice va n.parts.length vc) (.slice ua n.ents.length uc), .int .i64 0]) (by simp [results, Tryz.results43, go_sem, x0, x1, x2, x3]) rfl ?_
    exact ⟨_, _, by rw [HRES.out], by rw [HRES.out]; exact hrow9.out, HB9.out⟩
  · have hres := hno rfl
    have CA := as_walk b w4.heap.size (.pointer none) w5 hT5 ht5
    have HRES := Lib.hid hres
    clear hn5 hres hyes hno hT5 ht5
    go_wp2_with fail
    refine CA.mono ?_
    rintro e w6 ⟨rfl, hg6⟩
    have hz6 := (hg6.block _ (heap_lt hz5) (by simp; omega)).trans hz5
    have hB6 : Below w.heap.size w w6 := hB5.trans (gro_below hg6 (by omega) hB5.size)
    obtain ⟨⟨c0, c1, c2, c3⟩, ⟨f0, f1, f2, f3⟩, ⟨q0, q1, q2, q3⟩⟩ := box4 hz6
    obtain ⟨w9, hw9, hz9, hB9⟩ : ∃ w9, w9 = (((w6.setCell ⟨w.heap.size, 0, none⟩ (.int .i64 0)).setCell ⟨w.heap.size, 1, none⟩ (.string ⟨#[]⟩)).setCell ⟨w.heap.size, 2, none⟩ (.slice none 0 0)).setCell ⟨w.heap.size, 3, none⟩ (.slice none 0 0) ∧ w9.heap[w.heap.size]? = some (.cells #[.int .i64 0, .string ⟨#[]⟩, .slice none 0 0, .slice none 0 0] 54 (0, 0)) ∧ Below w.heap.size w w9 :=
      ⟨_, rfl, heap_set_cell (heap_set_cell (heap_set_cell (heap_set_cell hz6 _) _) _) _, below_setT (below_setT (below_setT (below_setT hB6 (Nat.le_refl _) _ _) (Nat.le_refl _) _ _) (Nat.le_refl _) _ _) (Nat.le_refl _) _ _⟩
    have HB9 := Lib.hid hB9
    clear CA hg6 hz5 hz6 hB9 hB6 hB5
    go_wp2
    rw [← hw9]
    obtain ⟨⟨x0, x1, x2, x3⟩, -, -⟩ := box4 hz9
    refine bodyPost_ret (v := .tuple #[NodV zNod (.slice none 0 0) (.slice none 0 0), .int .i64 2]) (by simp [results, Tryz.results43, go_sem, x0, x1, x2, x3, zNod]) rfl ?_
    exact ⟨_, _, by rw [HRES.out], by rw [HRES.out]; exact ⟨Row.nil _ _, Row.nil _ _⟩, HB9.out⟩
end Go.Proofs.YtengciicdnkgaaaGreatDoor
