/- The reference's Fit of disks: the loop over files. -/
import Derived.Test.YthjoaoakadaieaaRFit15
import Derived.Test.YthjoaoakadaieaaCmp
namespace Go.Proofs.Ythjoaoakadaieaa
open Go.RowKit

/-- What few promises of a file. -/
def Short (x : DF) : Prop := x.name.length ≤ 1000000 ∧ x.data.length ≤ 1000000 ∧ x.ops.length ≤ 1000000 ∧ ∀ o ∈ x.ops, o.2.length ≤ 1000000

theorem anyF_bad {l : List DF} {k : Nat} (h : k < l.length) (hb : badF l[k].lo = true) : (los l).any badF = true := by
  rw [List.any_eq_true]; exact ⟨_, List.mem_map_of_mem (List.getElem_mem h), hb⟩
theorem fitD_head {l : List DF} {off : Bool} {fuse : Int} (h : headBad l.length off fuse = true) : fitD (los l, off, fuse) = false := by
  simp [fitD, los_len, h]
theorem fitD_bad {l : List DF} {off : Bool} {fuse : Int} {k : Nat} (h : k < l.length) (hb : badF l[k].lo = true) : fitD (los l, off, fuse) = false := by
  simp [fitD, anyF_bad h hb]
theorem upN_bad {ks : List (List UInt8)} {k : Nat} (h : k + 1 < ks.length) (hn : ¬ ks[k] < ks[k + 1]) : upN ks = false := by
  cases hu : upN ks with
  | false => rfl
  | true =>
    have h1 := upN_take ks (k + 2) hu
    rw [upN_step h] at h1
    simp [hn] at h1
theorem fitD_down {l : List DF} {off : Bool} {fuse : Int} {k : Nat} (h : k + 1 < l.length) (hn : ¬ l[k].name < l[k + 1].name) : fitD (los l, off, fuse) = false := by
  have : upN ((los l).map (·.1)) = false := by
    rw [los_names]
    exact upN_bad (k := k) (by simpa using h) (by simpa using hn)
  simp only [fitD, this]; simp
theorem fitD_good {l : List DF} {off : Bool} {fuse : Int} (h : headBad l.length off fuse = false) (hu : upN (l.map DF.name) = true) (hb : ∀ x ∈ l, badF x.lo = false) : fitD (los l, off, fuse) = true := by
  have h1 : (los l).any badF = false := any_none (fun f hf => by
    obtain ⟨x, hx, rfl⟩ := List.mem_map.1 hf
    exact hb x hx)
  simp [fitD, los_len, los_names, h, hu, h1]
theorem fitD_any {l : List DF} {off : Bool} {fuse : Int} (h : headBad l.length off fuse = false) (hu : upN (l.map DF.name) = true) : fitD (los l, off, fuse) = !(l.any fun x => badF x.lo) := by
  have e : (los l).any badF = l.any fun x => badF x.lo := by simp [los, List.any_map, Function.comp_def]
  rw [← e]
  simp [fitD, los_len, los_names, h, hu]
theorem upN_names {l : List DF} {k : Nat} (h : k + 1 < l.length) : upN ((l.take (k + 2)).map DF.name) = (upN ((l.take (k + 1)).map DF.name) && decide (l[k].name < l[k + 1].name)) := by
  have := upN_step (l := l.map DF.name) (k := k) (by simpa using h)
  simpa [List.map_take] using this
theorem upN_one (l : List DF) : upN ((l.take 1).map DF.name) = true := by
  cases l <;> simp [upN]

set_option maxHeartbeats 4000000 in
set_option maxRecDepth 100000 in
theorem rfit15_walk (v : Value) (off : Bool) (fuse : Int) (l : List DF) (w : World) (hr : FilesR w v l) (hcnt : l.length ≤ 1000000) (hs : ∀ x ∈ l, Short x) :
    Calls Try.prog 18 #[DiskV v off fuse] w fun e w' => e = .returned (.bool (fitD (los l, off, fuse))) ∧ Below w.heap.size w w' := by
  have hops := hr.2
  obtain ⟨⟨a, c, rfl, hc, hm, hx⟩, _⟩ := hr
  have HX := Lib.hid hx
  have HO := Lib.hid hops
  have HS := Lib.hid hs
  clear hx hops hs
  have hb0 : Below w.heap.size w (w.alloc (.cells #[.slice a l.length c, .bool off, .int .i64 fuse] 35)) := (Below.refl _ _).alloc (Nat.le_refl _) _
  have HH := Lib.hid (fun h => fitD_head (l := l) (off := off) (fuse := fuse) h)
  have HHE := Lib.hid (show headBad l.length off fuse = (decide (8 < l.length) || (decide (fuse < -1) || (decide (1048576 < fuse) || (off && fuse != -1)))) from rfl)
  have HDN := Lib.hid (fun (k : Nat) (h : k < l.length) => fitD_bad (off := off) (fuse := fuse) h)
  have HDW := Lib.hid (fun (k : Nat) (h : k + 1 < l.length) => fitD_down (off := off) (fuse := fuse) h)
  have HG := Lib.hid (fun h1 h2 h3 => fitD_good (l := l) (off := off) (fuse := fuse) h1 h2 h3)
  generalize fitD (los l, off, fuse) = res at *
  generalize headBad l.length off fuse = hbad at *
  by_cases g1 : 8 < l.length
  · have g1' : (8 : Int) < (l.length : Int) := by omega
    have HR := Lib.hid (HH.out (by rw [HHE.out]; simp [g1]))
    go_enter Try.func18, Try.ntmps18
    go_wp2
    go_ret
    exact ⟨by rw [HR.out]; rfl, hb0⟩
  have g1' : ¬ (8 : Int) < (l.length : Int) := by omega
  by_cases g2 : fuse < -1
  · have HR := Lib.hid (HH.out (by rw [HHE.out]; simp [g2]))
    go_enter Try.func18, Try.ntmps18
    go_wp2
    go_ret
    exact ⟨by rw [HR.out]; rfl, hb0⟩
  by_cases g3 : 1048576 < fuse
  · have HR := Lib.hid (HH.out (by rw [HHE.out]; simp [g3]))
    go_enter Try.func18, Try.ntmps18
    go_wp2
    go_ret
    exact ⟨by rw [HR.out]; rfl, hb0⟩
  by_cases g4 : (off && fuse != -1) = true
  · have HR := Lib.hid (HH.out (by rw [HHE.out, g4]; simp))
    rw [Bool.and_eq_true] at g4
    obtain ⟨rfl, g5⟩ := g4
    go_enter Try.func18, Try.ntmps18
    go_wp2
    go_ret
    exact ⟨by rw [HR.out]; rfl, hb0⟩
  have g4 : (off && fuse != -1) = false := by simpa using g4
  have HHB := Lib.hid (show hbad = false by rw [HHE.out, g4]; simp [g1, g2, g3])
  have hcase : off = false ∨ (off = true ∧ (fuse != -1) = false) := by
    cases off
    · exact .inl rfl
    · exact .inr ⟨rfl, by simpa using g4⟩
  clear HHE HH g4
  rcases hcase with rfl | ⟨rfl, g6⟩
  all_goals
    obtain ⟨w0, hw0, hb0⟩ : ∃ w0, w0 = _ ∧ Below w.heap.size w w0 := ⟨_, rfl, hb0⟩
    have hd0 : w0.cell? ⟨w.heap.size, 0, none⟩ = some (.slice a l.length c) := by rw [hw0]; exact cell_new w _ _ 0 rfl
    go_enter Try.func18, Try.ntmps18
    go_wp2_with fail
    rw [← hw0]
    clear hw0
    go_wp2
    go_loopw [3] (fun i wr => ∃ k : Nat, k ≤ l.length ∧ i = .int .i64 k ∧ (∀ x ∈ l.take k, badF x.lo = false) ∧ upN ((l.take k).map DF.name) = true ∧ Below w0.heap.size w0 wr) (fun i _ => l.length - (intOf i).toNat)
    case atStart => exact ⟨0, Nat.zero_le _, rfl, by simp, rfl, Below.refl _ _⟩
    case round =>
      obtain ⟨k, hk, rfl, ha, hu, hB⟩ := hrel
      have HA := Lib.hid ha
      have HU := Lib.hid hu
      have hcd := cell_below hB hd0
      have hcw := LaterOf.cell hcd
      have hBW := below_chain hb0 hB hb0.size
      have HB := Lib.hid hBW
      have HB0 := Lib.hid hB
      clear ha hu
      by_cases h1 : k < l.length
      · have h1' : (k : Int) < (l.length : Int) := by omega
        have hx := HX.out
        rcases hx with hx | ⟨b, o, rfl, hx⟩
        · exfalso; rw [hx] at h1; simp at h1
        obtain ⟨hx1, hx2, hx3⟩ := df_cells hx h1
        have hc1 := LaterOf.cell (cell_below hBW hx1)
        have hc2 := LaterOf.cell (cell_below hBW hx2)
        have hc3 := LaterOf.cell (cell_below hBW hx3)
        have HBAD := Lib.hid (fun h => HDN.out k h1 h)
        have HEA := Lib.hid (fun h => none_step (p := fun x : DF => badF x.lo) h1 HA.out h)
        obtain ⟨sh1, sh2, sh3, sh4⟩ := HS.out l[k] (by simp)
        have CF := fun (p : LaterOf wr) => rfitfile_walk l[k] p.world (((HO.out l[k] (by simp)).below hBW).below p.below) sh1 sh2 sh3 sh4
        clear sh1 sh2 sh3 sh4
        by_cases hz : k = 0
        · subst hz
          have HU1 := Lib.hid (upN_one l)
          rw [Nat.zero_mul, Nat.add_zero] at hc1
          simp only [Nat.zero_mul, Nat.add_zero] at hc2 hc3
          have hz0 : ((0 : Nat) : Int) = 0 := rfl
          clear hx hx1 hx2 hx3 hB hBW
          generalize l[0] = y at *
          generalize badF y.lo = bf at *
          obtain ⟨nm, dt, ov, os⟩ := y
          simp only at CF hc1 hc2 hc3
          cases bf with
          | true =>
            have HF := Lib.hid (HBAD.out rfl)
            go_wp2
            (refine wp_region_later (by kernel_rfl) (by kernel_rfl) ?_; (repeat (go_big_quiet_step ((go_at_call 40; exact LaterOf.call _ (CF _))))); refine wpQuiet_nil ?_; intro _ hw1; obtain ⟨lw, hw2⟩ := hw1; subst hw2)
            go_wp2
            go_ret
            exact ⟨by rw [HF.out]; rfl, below_chain HB.out lw.below HB.out.size⟩
          | false =>
            have HSS := Lib.hid (HEA.out rfl)
            go_wp2
            (refine wp_region_later (by kernel_rfl) (by kernel_rfl) ?_; (repeat (go_big_quiet_step ((go_at_call 40; exact LaterOf.call _ (CF _))))); refine wpQuiet_nil ?_; intro _ hw1; obtain ⟨lw, hw2⟩ := hw1; subst hw2)
            go_wp2
            go_roundw
            case rel => exact ⟨1, by omega, by go_num, HSS.out, HU1.out, below_chain HB0.out lw.below HB0.out.size⟩
            case measure => simp [intOf]; omega
        · obtain ⟨j, rfl⟩ : ∃ j, k = j + 1 := ⟨k - 1, by omega⟩
          have hj : j < l.length := by omega
          obtain ⟨hz1, _, _⟩ := df_cells hx hj
          have hc4 := LaterOf.cell (cell_below hBW hz1)
          have HDWN := Lib.hid (fun h => HDW.out j h1 h)
          have HUS := Lib.hid (upN_names h1)
          have hwr : IntKind.i64.wrap (j : Int) = (j : Int) := by rw [IntKind.wrap_i64]; omega
          have hpos : (0 : Int) < ((j + 1 : Nat) : Int) := by omega
          clear hx hx1 hx2 hx3 hz1 hB hBW hz
          generalize l[j + 1] = y at *
          generalize l[j] = y0 at *
          generalize badF y.lo = bf at *
          obtain ⟨nm, dt, ov, os⟩ := y
          obtain ⟨nm0, dt0, ov0, os0⟩ := y0
          simp only at CF hc1 hc2 hc3 hc4 HUS HDWN
          cases bf with
          | true =>
            have HF := Lib.hid (HBAD.out rfl)
            go_wp2
            (refine wp_region_later (by kernel_rfl) (by kernel_rfl) ?_; (repeat (go_big_quiet_step ((go_at_call 40; exact LaterOf.call _ (CF _))))); refine wpQuiet_nil ?_; intro _ hw1; obtain ⟨lw, hw2⟩ := hw1; subst hw2)
            go_wp2
            go_ret
            exact ⟨by rw [HF.out]; rfl, below_chain HB.out lw.below HB.out.size⟩
          | false =>
            have HSS := Lib.hid (HEA.out rfl)
            have hcase : (nm0 < nm ∧ Op.bytesLess nm0 nm = true) ∨ (¬ nm0 < nm ∧ Op.bytesLess nm0 nm = false) := by
              rw [bytesLess_eq]
              by_cases h : nm0 < nm
              · exact .inl ⟨h, by simpa using h⟩
              · exact .inr ⟨h, by simpa using h⟩
            rcases hcase with ⟨hlt, hbl⟩ | ⟨hlt, hbl⟩
            · have HU2 := Lib.hid (show upN ((l.take (j + 2)).map DF.name) = true by rw [HUS.out, HU.out]; simp [hlt])
              clear hlt
              go_wp2
              (refine wp_region_later (by kernel_rfl) (by kernel_rfl) ?_; (repeat (go_big_quiet_step ((go_at_call 40; exact LaterOf.call _ (CF _))))); refine wpQuiet_nil ?_; intro _ hw1; obtain ⟨lw, hw2⟩ := hw1; subst hw2)
              go_wp2
              go_roundw
              case rel => exact ⟨j + 2, by omega, by go_num, HSS.out, HU2.out, below_chain HB0.out lw.below HB0.out.size⟩
              case measure => simp [intOf]; omega
            · have HF := Lib.hid (HDWN.out hlt)
              clear hlt
              go_wp2
              (refine wp_region_later (by kernel_rfl) (by kernel_rfl) ?_; (repeat (go_big_quiet_step ((go_at_call 40; exact LaterOf.call _ (CF _))))); refine wpQuiet_nil ?_; intro _ hw1; obtain ⟨lw, hw2⟩ := hw1; subst hw2)
              go_wp2
              go_ret
              exact ⟨by rw [HF.out]; rfl, below_chain HB.out lw.below HB.out.size⟩
      · have h1' : ¬ (k : Int) < (l.length : Int) := by omega
        have HF := Lib.hid (show res = true by
          have e1 := HA.out; have e2 := HU.out
          rw [List.take_of_length_le (by omega)] at e1 e2
          exact HG.out HHB.out e2 e1)
        go_wp2
        go_ret
        exact ⟨by rw [HF.out]; rfl, HB.out⟩
end Go.Proofs.Ythjoaoakadaieaa
