/- The program's Read. -/
import Derived.Test.YthjoaoakadaieaaMach
import Derived.Test.YthjoaoakadaieaaSorted
import Derived.Test.YthjoaoakadaieaaPLay
namespace Go.Proofs.Ythjoaoakadaieaa
open Go.RowKit

theorem findF_los (l : List DF) (n : List UInt8) : findF (los l) n = (l.find? (fun x => x.name == n)).map DF.lo := by
  unfold findF los; rw [List.find?_map]; rfl
theorem findF_in {l : List DF} {n : List UInt8} (hu : upS (l.map DF.name)) (h : n ∈ l.map DF.name) : ∃ hk : posL (l.map DF.name) n < l.length, l[posL (l.map DF.name) n].name = n ∧ findF (los l) n = some l[posL (l.map DF.name) n].lo := by
  obtain ⟨hk, hf⟩ := find_up hu h
  obtain ⟨_, he⟩ := pos_lt hu h
  exact ⟨hk, he, by rw [findF_los, hf]; rfl⟩
theorem findF_out {l : List DF} {n : List UInt8} (h : n ∉ l.map DF.name) : findF (los l) n = none := by
  rw [findF_los, find_none h]; rfl

set_option maxHeartbeats 2000000 in
set_option maxRecDepth 100000 in
theorem pread15_walk (v : Value) (off : Bool) (fuse : Int) (l : List DF) (n : List UInt8) (w : World) (hr : FilesR w v l) (hcnt : l.length ≤ 1000000) (hup : upS (l.map DF.name)) (hok : ∀ x ∈ l, badF x.lo = false) :
    Calls Try.prog 23 #[DiskV v off fuse, S n] w fun e w' => e = .returned (.tuple #[S (readD (los l, off, fuse) n).1, .bool (readD (los l, off, fuse) n).2]) ∧ Below w.heap.size w w' := by
  have hr0 := hr
  obtain ⟨⟨a, c, rfl, hc, hm, hx⟩, hops⟩ := hr
  have hB1 : Below w.heap.size w ((w.alloc (.cells #[.slice a l.length c, .bool off, .int .i64 fuse] 35)).alloc (.cells #[.slice a l.length c, .bool off, .int .i64 fuse] 78)) := ((Below.refl _ _).alloc (Nat.le_refl _) _).alloc (by simp) _
  have hmb : MBox ((w.alloc (.cells #[.slice a l.length c, .bool off, .int .i64 fuse] 35)).alloc (.cells #[.slice a l.length c, .bool off, .int .i64 fuse] 78)) (w.heap.size + 1) (.slice a l.length c) off fuse := by
    have := heap_alloc_new (w.alloc (.cells #[.slice a l.length c, .bool off, .int .i64 fuse] 35)) (.cells #[.slice a l.length c, .bool off, .int .i64 fuse] 78)
    rw [World.size_alloc] at this; exact this
  have C := pmat_walk (w.heap.size + 1) (.slice a l.length c) off fuse l n _ hmb (hr0.1.below hB1) hcnt hup
  have hd0 := cell_old (cell_new w #[.slice a l.length c, .bool off, .int .i64 fuse] 35 0 rfl) (.cells #[.slice a l.length c, .bool off, .int .i64 fuse] 78)
  by_cases hin : n ∈ l.map DF.name
  · obtain ⟨hk, hnm, hf⟩ := findF_in hup hin
    have HR := Lib.hid (show readD (los l, off, fuse) n = (seenL l[posL (l.map DF.name) n].data l[posL (l.map DF.name) n].ops, true) by unfold readD; rw [hf]; rfl)
    rw [show decide (n ∈ l.map DF.name) = true by simpa using hin] at C
    generalize posL (l.map DF.name) n = k at *
    have hk' : (k : Int) < (l.length : Int) := by omega
    rcases hx with hx | ⟨b, o, rfl, hx⟩
    · exfalso; rw [hx] at hk; simp at hk
    obtain ⟨hx1, hx2, hx3⟩ := df_cells hx hk
    have CS := fun (W : World) (h : Below w.heap.size w W) => pseen_walk l[k] W ((hops l[k] (by simp)).below h) (hok l[k] (by simp))
    have HCS := Lib.hid CS
    clear CS hx hok hops hr0 hup hin hnm hf hmb
    generalize readD (los l, off, fuse) n = rd at *
    generalize l[k] = y at *
    obtain ⟨nm, dt, ov, os⟩ := y
    simp only at HR hx1 hx2 hx3 HCS
    go_enter Try.func23, Try.ntmps23
    go_wp2_with fail
    refine C.mono ?_
    rintro e w1 ⟨rfl, hb1⟩
    have hBW := below_chain hB1 hb1 (by simp; omega)
    have e0 := cell_below hb1 hd0
    have e1 := cell_below hBW hx1
    have e2 := cell_below hBW hx2
    have e3 := cell_below hBW hx3
    have CS := HCS.out _ hBW
    clear HCS C hd0
    go_wp2_with (go_at_call 45; refine (CS).mono ?_; rintro e w2 ⟨rfl, hb2⟩)
    go_ret2
    exact ⟨by rw [HR.out]; rfl, below_chain hBW hb2 hBW.size⟩
  · have HR := Lib.hid (show readD (los l, off, fuse) n = ([], false) by unfold readD; rw [findF_out hin])
    rw [show decide (n ∈ l.map DF.name) = false by simpa using hin] at C
    generalize readD (los l, off, fuse) n = rd at *
    clear hx hok hops hr0 hup hin hmb
    go_enter Try.func23, Try.ntmps23
    go_wp2_with (go_at_call 44; refine (C).mono ?_; rintro e w1 ⟨rfl, hb1⟩)
    go_ret2
    exact ⟨by rw [HR.out]; rfl, below_chain hB1 hb1 (by simp; omega)⟩
end Go.Proofs.Ythjoaoakadaieaa
