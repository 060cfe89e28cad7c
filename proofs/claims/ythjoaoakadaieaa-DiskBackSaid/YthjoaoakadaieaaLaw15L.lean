/- DiskLasts: what was made to last. -/
import Derived.Test.YthjoaoakadaieaaLaw15
import Derived.Test.YthjoaoakadaieaaFindPlain
namespace Go.Proofs.Ythjoaoakadaieaa
open Go.RowKit

theorem infoBool : (Try.prog.info? 4).map (fun i => (i.zero, i.size, i.bytes)) = some (some (.bool false), 1, 1) := by kernel_rfl
theorem trues_succ (k : Nat) : List.replicate (k + 1) true = List.replicate k true ++ [true] := by rw [List.replicate_succ']
theorem dbox_cells {w : World} {b : Nat} {v : Value} {off : Bool} {fuse : Int} (h : w.heap[b]? = some (DCells v off fuse)) : w.cell? ⟨b, 0, none⟩ = some v ∧ w.cell? ⟨b, 1, none⟩ = some (.bool off) ∧ w.cell? ⟨b, 2, none⟩ = some (.int .i64 fuse) :=
  ⟨heap_cell h (j := 0) (v := v) rfl, heap_cell h (j := 1) (v := .bool off) rfl, heap_cell h (j := 2) (v := .int .i64 fuse) rfl⟩
theorem box_kept' {w w' : World} {b : Nat} {X : Obj} (hb : Below w.heap.size w w') (h : w.heap[b]? = some X) : w'.heap[b]? = some X := (hb.block _ (heap_lt h)).trans h
theorem los_mem {l : List DF} {k : Nat} (h : k < l.length) : l[k].name ∈ (los l).map (·.1) := by
  rw [los_names]; exact List.mem_map_of_mem (List.getElem_mem h)

set_option maxHeartbeats 16000000 in
set_option maxRecDepth 100000 in
theorem lasts_walk (v : Value) (off : Bool) (fuse : Int) (l : List DF) (nm : List UInt8) (kv : Value) (ks : List Bool) (w : World) (hr : FilesR w v l) (hkr : Row boolC w kv ks) :
    Calls Try.prog 6 #[DiskV v off fuse, S nm, kv] w fun e w' => e = .returned (.bool true) ∧ Below w.heap.size w w' := by
  have hb0 : Below w.heap.size w (w.alloc (DCells v off fuse)) := (Below.refl _ _).alloc (Nat.le_refl _) _
  have hx0 := heap_alloc_new w (DCells v off fuse)
  have C := few_walk v off fuse l (w.alloc (DCells v off fuse)) (hr.below hb0)
  obtain ⟨a, c, rfl, hc, hcm, hxl⟩ := hr.1
  have HXL := Lib.hid hxl
  clear hxl
  have hkv := hkr
  obtain ⟨ak, kc, rfl, hkc, hkm, _⟩ := hkv
  go_enter Try.func6, Try.ntmps6
  go_wp2_with fail
  refine C.mono ?_
  rintro e w1 ⟨b, rfl, hfew, hb1⟩
  have hB1 := below_chain hb0 hb1 hb0.size
  have hx1 := box_kept' hb1 hx0
  have hr1 := hr.below hB1
  have hkr1 := hkr.below hB1
  clear C hx0 hb0 hb1
  cases b with
  | false => (have CA := awake15_walk w1; go_wp2_with fail; refine CA.mono ?_; rintro e wy ⟨rfl, hby⟩; have hBy := below_chain hB1 hby (Below.size hB1); go_wp2; go_ret; exact ⟨rfl, hBy⟩)
  | true =>
  have hF := hfew rfl
  have HF := Lib.hid hF
  have hl12 := hF.1
  obtain ⟨y0, y1, y2⟩ := dbox_cells hx1
  clear hF hfew
  by_cases g0 : 100 < nm.length
  · have g0' : (100 : Int) < (nm.length : Int) := by omega
    (have CA := awake15_walk w1; go_wp2_with fail; refine CA.mono ?_; rintro e wy ⟨rfl, hby⟩; have hBy := below_chain hB1 hby (Below.size hB1); go_wp2; go_ret; exact ⟨rfl, hBy⟩)
  have g0' : ¬ (100 : Int) < (nm.length : Int) := by omega
  by_cases g1 : 2000 < ks.length
  · have g1' : (2000 : Int) < (ks.length : Int) := by omega
    (have CA := awake15_walk w1; go_wp2_with fail; refine CA.mono ?_; rintro e wy ⟨rfl, hby⟩; have hBy := below_chain hB1 hby (Below.size hB1); go_wp2; go_ret; exact ⟨rfl, hBy⟩)
  have g1' : ¬ (2000 : Int) < (ks.length : Int) := by omega
  have C2 := rfit15_walk (.slice a l.length c) off fuse l w1 hr1 (by omega) (few_short HF.out)
  obtain ⟨q, hq⟩ : ∃ q, fitD (los l, off, fuse) = q := ⟨_, rfl⟩
  rw [hq] at C2
  cases q with
  | false =>
    go_wp2_with fail
    refine C2.mono ?_
    rintro e w2 ⟨rfl, hb2⟩
    have hB2 := below_chain hB1 hb2 hB1.size
    (have CA := awake15_walk w2; go_wp2_with fail; refine CA.mono ?_; rintro e wy ⟨rfl, hby⟩; have hBy := below_chain hB2 hby (Below.size hB2); go_wp2; go_ret; exact ⟨rfl, hBy⟩)
  | true =>
  go_wp2_with fail
  refine C2.mono ?_
  rintro e w2 ⟨rfl, hb2⟩
  have hB2 := below_chain hB1 hb2 hB1.size
  have hx2 := box_kept' hb2 hx1
  have hr2 := hr1.below hb2
  have hkr2 := hkr1.below hb2
  have FL := fit_get hq
  have FP := fitP_of hq
  clear C2 y0 y1 y2 hx1 hr1 hkr1 hb2
  obtain ⟨i0, hi, hz0, hz1, hz2⟩ := info_parts infoBool
  go_wp2
  go_loopw [7, 40] (fun v i wr => ∃ k : Nat, k ≤ 2000 ∧ i = .int .i64 k ∧ wr.ownsRow w2.heap.size 4 1 v k ((List.replicate k true).flatMap boolC) ∧ Below w2.heap.size w2 wr) (fun _ i _ => 2000 - (intOf i).toNat)
  case atStart => exact ⟨0, by omega, rfl, World.ownsRow_nil _ _ _ _, Below.refl _ _⟩
  case round =>
    obtain ⟨k, hk, rfl, hown, hB⟩ := hrel
    have hsz := hB.size
    by_cases h1 : k < 2000
    · have h1' : (k : Int) < 2000 := by omega
      go_wp2_with (at_builtin; refine wpList_append_own _ rfl _ _ 36 rfl w2.heap.size 4 i0 (.bool false) 1 1 Try.underlying36 hi hz0 hz1 hz2 rfl (by decide) _ _ _ rfl (hown.alloc _) ⟨wr.heap.size, 0, none⟩ 1 1 [.bool true] rfl rfl (new_cell_at rfl _ _) (by intro u hu; simp at hu; subst hu; rfl) (by unfold maxLen; omega) (by omega) (by simp; omega) ?_)
      intro v' w3 hown' hgrow _
      have hB3 := (hB.alloc hsz (.cells #[.bool true] 4)).grown hgrow (by simp; omega) (fun g hg => (hown.lt g hg).1)
      clear hgrow hown hB
      go_wp2
      go_roundw
      case rel => exact ⟨k + 1, by omega, by go_num, by rw [trues_succ]; simpa using hown', hB3⟩
      case measure => simp [intOf]; omega
    · have h1' : ¬ (k : Int) < 2000 := by omega
      obtain rfl : k = 2000 := by omega
      obtain ⟨T, hT⟩ : ∃ T, T = List.replicate 2000 true := ⟨_, rfl⟩
      rw [← hT] at hown
      have hTl : T.length = 2000 := by rw [hT, List.length_replicate]
      have hrT : Row boolC wr u7 T := Row.of_ownsK (K := 1) (fun _ => rfl) (by rw [hTl]; exact hown)
      have HTL := Lib.hid (show T.length ≤ 1000000 by omega)
      have hBr := below_chain hB2 hB hB2.size
      have hxr := box_kept' hB hx2
      have hrr := hr2.below hB
      have hkrr := hkr2.below hB
      obtain ⟨y0, y1, y2⟩ := dbox_cells hxr
      have C3 := pcrash_walk (.slice a l.length c) u7 off fuse l T wr hrr hrT (by omega) HTL.out FL.ok
      have HLW := Lib.hid (fun n hn => lasts_whole (d := (los l, off, fuse)) (n := n) FP hn)
      rw [← hT] at HLW
      clear hTl hown hsz hr2 hkr2 hx2
      go_wp2_with fail
      refine C3.mono ?_
      rintro e w3 ⟨v3, l3, rfl, hr3, h3, hb3⟩
      have F3 := fit_get (l := l3) (off := false) (fuse := -1) (by rw [h3]; exact crash_fit T hq)
      have hB3 := below_chain hBr hb3 hBr.size
      have hrv := hr3
      obtain ⟨⟨a3, c3, rfl, _⟩, _⟩ := hrv
      obtain ⟨w4, hw4, hb4, hx4⟩ : ∃ w4, w4 = w3.alloc (DCells (.slice a3 l3.length c3) false (-1)) ∧ Below w3.heap.size w3 w4 ∧ w4.heap[w3.heap.size]? = some (DCells (.slice a3 l3.length c3) false (-1)) := ⟨_, rfl, (Below.refl _ _).alloc (Nat.le_refl _) _, heap_alloc_new _ _⟩
      have hB4 := below_chain hB3 hb4 hB3.size
      have hx4d := box_kept' hb4 (box_kept' hb3 hxr)
      have hr4 := (hrr.below hb3).below hb4
      have hkr4 := (hkrr.below hb3).below hb4
      have hr34 := hr3.below hb4
      have f0 := fun X => cell_old (dbox_cells (box_kept' hb3 hxr)).1 X
      clear C3 y0 y1 y2 hrr hkrr hxr hb3 hr3 hB
      go_wp2_with fail
      rw [← hw4]
      clear hw4 f0
      go_loopw [52] (fun i wq => ∃ k : Nat, k ≤ l.length ∧ i = .int .i64 k ∧ Below w4.heap.size w4 wq) (fun i _ => l.length - (intOf i).toNat)
      case atStart => exact ⟨0, by omega, rfl, Below.refl _ _⟩
      case round =>
        obtain ⟨k, hk, rfl, hBq⟩ := hrel
        have hxd := box_kept' hBq hx4d
        have hx8 := box_kept' hBq hx4
        have hrq := hr4.below hBq
        have hkrq := hkr4.below hBq
        have hr3q := hr34.below hBq
        have hBQ := below_chain hB4 hBq hB4.size
        by_cases h1 : k < l.length
        · have h1' : (k : Int) < (l.length : Int) := by omega
          have hx := HXL.out
          rcases hx with hx | ⟨b, o, rfl, hx⟩
          · exfalso; rw [hx] at h1; simp at h1
          obtain ⟨hp1, hp2, hp3⟩ := df_cells hx h1
          have hc1 := cell_below hBQ hp1
          have hc2 := cell_below hBQ hp2
          have hc3 := cell_below hBQ hp3
          obtain ⟨s, hs1, hs2⟩ := HLW.out _ (los_mem h1)
          have hop := hrq.2 l[k] (by simp)
          clear hx hp1 hp2 hp3
          generalize l[k] = y at *
          obtain ⟨fn, fd, fv, fo⟩ := y
          simp only at hc1 hc2 hc3 hs1 hs2 hop
          obtain ⟨ao, co, rfl, _⟩ := hop
          obtain ⟨wA, hwA, hBA, hxA⟩ : ∃ wA, wA = wr.alloc (.cells #[S fn, S fd, .slice ao fo.length co] 50) ∧ Below wr.heap.size wr wA ∧ wA.heap[wr.heap.size]? = some (.cells #[S fn, S fd, .slice ao fo.length co] 50 (0, 0)) := ⟨_, rfl, (Below.refl _ _).alloc (Nat.le_refl _) _, heap_alloc_new _ _⟩
          obtain ⟨u0, u1, u2⟩ := dbox_cells hxd
          have y0 := fun X => cell_old u0 X
          have y1 := fun X => cell_old u1 X
          have y2 := fun X => cell_old u2 X
          have C5 := pread15_walk (.slice (some ⟨b, o, none⟩) l.length c) off fuse l fn wA (hrq.below hBA) (by omega) FL.up FL.ok
          rw [hs1] at C5
          clear u0 u1 u2
          have hss : (s == s) = true := by simp
          go_wp2_with fail
          rw [← hwA]
          clear hwA y0 y1 y2 hc1 hc2 hc3
          refine C5.mono ?_
          rintro e w5 ⟨rfl, hb5⟩
          have hxA5 := box_kept' hb5 hxA
          have ha1 := heap_cell hxA5 (j := 0) (v := S fn) rfl
          obtain ⟨y0, y1, y2⟩ := dbox_cells (box_kept' hb5 (box_kept' hBA hx8))
          have hB5 := below_chain (below_chain hBq hBA hBq.size) hb5 (below_chain hBq hBA hBq.size).size
          have C6 := pread15_walk (.slice a3 l3.length c3) false (-1) l3 fn w5 ((hr3q.below hBA).below hb5) (by have := F3.len; omega) F3.up F3.ok
          rw [h3, hs2] at C6
          clear C5
          go_wp2_with fail
          refine C6.mono ?_
          rintro e w6 ⟨rfl, hb6⟩
          have hB6 := below_chain hB5 hb6 hB5.size
          clear C6 y0 y1 y2 ha1
          go_wp2
          go_roundw
          case rel => exact ⟨k + 1, by omega, by go_num, hB6⟩
          case measure => simp [intOf]; omega
        · have h1' : ¬ (k : Int) < (l.length : Int) := by omega
          obtain ⟨y0, y1, y2⟩ := dbox_cells hxd
          have C5 := psync_walk (fun _ => False) (.slice a l.length c) off fuse l nm wr (fun k h => h.elim) (FilesZ.of hrq) (by omega) FL.up FL.f1 FL.f2 FL.ok
          go_wp2_with fail
          refine C5.mono ?_
          rintro e w5 ⟨v5, o5, f5, l5, e5, rfl, hr5, hres5, hb5⟩
          have hB5 := below_chain hBQ hb5 hBQ.size
          have F5 := fit_get (l := l5) (off := o5) (fuse := f5) (by have h := (syncD_fit (n := nm) FP).fit; rw [hres5] at h; exact h)
          have hr5' := hr5.here
          have hrv := hr5'
          obtain ⟨⟨a5, c5, rfl, _⟩, _⟩ := hrv
          clear C5 y0 y1 y2
          by_cases he : e5 = 0
          · subst he
            obtain ⟨s, hs1, hs2⟩ := lasts_sync ks hres5
            have hss : (s == s) = true := by simp
            obtain ⟨w6, hw6, hb6, hx6⟩ : ∃ w6, w6 = w5.alloc (DCells (.slice a5 l5.length c5) o5 f5) ∧ Below w5.heap.size w5 w6 ∧ w6.heap[w5.heap.size]? = some (DCells (.slice a5 l5.length c5) o5 f5) := ⟨_, rfl, (Below.refl _ _).alloc (Nat.le_refl _) _, heap_alloc_new _ _⟩
            have hB6 := below_chain hB5 hb6 hB5.size
            obtain ⟨y0, y1, y2⟩ := dbox_cells hx6
            have C7 := pread15_walk (.slice a5 l5.length c5) o5 f5 l5 nm w6 (hr5'.below hb6) (by have := F5.len; omega) F5.up F5.ok
            rw [hs1] at C7
            go_wp2_with fail
            rw [← hw6]
            clear hw6
            go_wp2_with fail
            refine C7.mono ?_
            rintro e w7 ⟨rfl, hb7⟩
            have hB7 := below_chain hB6 hb7 hB6.size
            clear y0 y1 y2
            obtain ⟨y0, y1, y2⟩ := dbox_cells (box_kept' hb7 hx6)
            have C8 := pcrash_walk (.slice a5 l5.length c5) (.slice ak ks.length kc) o5 f5 l5 ks w7 ((hr5'.below hb6).below hb7) (((hkrq.below hb5).below hb6).below hb7) (by have := F5.len; omega) (by omega) F5.ok
            clear C7
            go_wp2_with fail
            refine C8.mono ?_
            rintro e w8 ⟨v8, l8, rfl, hr8, h8, hb8⟩
            have hB8 := below_chain hB7 hb8 hB7.size
            have F8 := fit_get (l := l8) (off := false) (fuse := -1) (by rw [h8]; have h := (syncD_fit (n := nm) FP).fit; rw [hres5] at h; exact crash_fit ks h)
            have C9 := pread15_walk v8 false (-1) l8 nm w8 hr8 (by have := F8.len; omega) F8.up F8.ok
            rw [h8, hs2] at C9
            clear C8
            go_wp2_with fail
            refine C9.mono ?_
            rintro e w9 ⟨rfl, hb9⟩
            have hB9 := below_chain hB8 hb9 hB8.size
            (have CA := awake15_walk w9; go_wp2_with fail; refine CA.mono ?_; rintro e wy ⟨rfl, hby⟩; have hBy := below_chain hB9 hby (Below.size hB9); go_wp2; go_ret; exact ⟨rfl, hBy⟩)
          · have he' : (e5 != 0) = true := by rw [bne_iff_ne]; exact he
            have hB6 := hB5.alloc hB5.size (DCells (.slice a5 l5.length c5) o5 f5)
            have CA := awake15_walk (w5.alloc (DCells (.slice a5 l5.length c5) o5 f5))
            go_wp2_with fail
            refine CA.mono ?_
            rintro e wy ⟨rfl, hby⟩
            have hBy := below_chain hB6 hby hB6.size
            go_wp2
            go_ret
            exact ⟨rfl, hBy⟩
end Go.Proofs.Ythjoaoakadaieaa
