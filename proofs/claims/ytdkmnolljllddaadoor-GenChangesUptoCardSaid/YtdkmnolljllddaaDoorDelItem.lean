/- slices.IndexFunc and slices.DeleteFunc, at silo/api.Item; the closure by its contract. -/
import Derived.Test.YtdkmnolljllddaaDoorItB
namespace Go.Proofs.YtdkmnolljllddaaDoor
open Go.RowKit

theorem delInfoItm : (Tryd.prog.info? 32).map (fun i => (i.zero, i.size, i.bytes)) = some (some (.agg #[.string ⟨#[]⟩, .bool false, .bool false, .string ⟨#[]⟩]), 4, 40) := by kernel_rfl

set_option maxHeartbeats 2000000 in
set_option maxRecDepth 100000 in
theorem idxItm_walk (g0 : Nat) (caps : Array Value) (p : Itm → Bool) (a : Option Addr) (c : Nat) (l : List Itm) (w : World) (hr : Row itC w (.slice a l.length c) l) (hcnt : l.length ≤ 1100000)
    (hen : ∀ args w, (callFunc g0 args).run Tryd.prog w = .ok (.enter g0 args) w)
    (hp : ∀ x w', Below w.heap.size w w' → Calls Tryd.prog g0 (#[ItV x] ++ caps) w' fun e w'' => e = .returned (.bool (p x)) ∧ Below w'.heap.size w' w'') :
    Calls Tryd.prog 66 #[.slice a l.length c, .func (.func g0) #[] caps] w fun e w' => e = .returned (.int .i64 (idxP p l)) ∧ Below w.heap.size w w' := by
  obtain ⟨a', c', hv, hc, hm, hx⟩ := hr
  cases hv
  have HX := Lib.hid hx
  have HP := Lib.hid hp
  clear hx hp
  go_enter Tryd.func66, Tryd.ntmps66
  go_wp2
  go_loopw [8] (fun i wr => ∃ k : Nat, k ≤ l.length ∧ i = .int .i64 k ∧ (∀ x ∈ l.take k, p x = false) ∧ Below w.heap.size w wr) (fun i _ => l.length - (intOf i).toNat)
  case atStart => exact ⟨0, Nat.zero_le _, rfl, by simp, Below.refl _ _⟩
  case round =>
    obtain ⟨k, hk, rfl, hall, hB⟩ := hrel
    have HALL := Lib.hid hall
    have HB := Lib.hid hB
    clear hall
    by_cases h1 : k < l.length
    · have hx := HX.out
      rcases hx with hx | ⟨b, o, rfl, hx⟩
      · exfalso; rw [hx] at h1; simp at h1
      have hfacts := it_cells hx h1
      have HE := Lib.hid (fun h => idxP_at h1 HALL.out h)
      have HN := Lib.hid (fun h => none_step h1 HALL.out h)
      clear hx
      generalize l[k] = y at *
      have CL := fun w' h => HP.out y w' h
      obtain ⟨qb, hqb⟩ : ∃ qb, p y = qb := ⟨_, rfl⟩
      rw [hqb] at CL HE HN
      clear hqb
      obtain ⟨p0, d0, x0, s0⟩ := y
      obtain ⟨hx1, hx2, hx3, hx4⟩ := hfacts
      have hc1 := cell_below hB hx1; have hc2 := cell_below hB hx2; have hc3 := cell_below hB hx3; have hc4 := cell_below hB hx4; clear hx1 hx2 hx3 hx4
      have h1' : (k : Int) < (l.length : Int) := by omega
      have CL2 := CL wr hB
      clear hB CL
      cases qb with
      | true =>
        have HF := Lib.hid (HE.out rfl)
        clear HE HN
        go_wp2_with (refine CL2.mono ?_; rintro e w1 ⟨rfl, hb1⟩)
        go_ret
        exact ⟨by rw [HF.out]; rfl, below_chain HB.out hb1 HB.out.size⟩
      | false =>
        have HF := Lib.hid (HN.out rfl)
        clear HE HN
        go_wp2_with (refine CL2.mono ?_; rintro e w1 ⟨rfl, hb1⟩)
        go_roundw
        case rel => exact ⟨k + 1, by omega, by go_num, HF.out, below_chain HB.out hb1 HB.out.size⟩
        case measure => simp [intOf]; omega
    · have h1' : ¬ (k : Int) < (l.length : Int) := by omega
      have HF := Lib.hid (show idxP p l = -1 from idxP_none (by have := HALL.out; rwa [List.take_of_length_le (by omega)] at this))
      go_wp2
      go_ret
      exact ⟨by rw [HF.out]; rfl, HB.out⟩

set_option maxHeartbeats 4000000 in
set_option maxRecDepth 100000 in
theorem delItm_walk (g0 : Nat) (caps : Array Value) (p : Itm → Bool) (B : Nat) (v : Value) (l : List Itm) (w : World) (hown : w.ownsRow B 32 4 v l.length (l.flatMap itC)) (hcnt : l.length ≤ 1100000) (hB : B ≤ w.heap.size)
    (hen : ∀ args w, (callFunc g0 args).run Tryd.prog w = .ok (.enter g0 args) w) (hrg : Row itC w v l)
    (hp : ∀ x w', Below B w w' → Calls Tryd.prog g0 (#[ItV x] ++ caps) w' fun e w'' => e = .returned (.bool (p x)) ∧ Below w'.heap.size w' w'') :
    Calls Tryd.prog 36 #[v, .func (.func g0) #[] caps] w fun e w' => ∃ v', e = .returned v' ∧ w'.ownsRow B 32 4 v' (l.filter (fun x => !p x)).length ((l.filter (fun x => !p x)).flatMap itC) ∧ Below B w w' := by
  obtain ⟨i0, hi0, hz0, hz1, hz2⟩ := info_parts delInfoItm
  obtain ⟨av, cv, rfl, _, hcm, hxx⟩ := hrg
  have CI := idxItm_walk g0 caps p av cv l w ⟨av, cv, rfl, by assumption, hcm, hxx⟩ hcnt hen (fun x w' h => hp x w' (h.mono hB))
  have HOWN := Lib.hid hown
  have HP := Lib.hid hp
  have hown2 := hown.2
  clear hxx hown hp
  rcases idxP_cases p l with ⟨e1, hall⟩ | ⟨k0, hk0, e1, hall, hpk⟩
  · have HF := Lib.hid (filter_all hall)
    rw [e1] at CI
    clear hall e1 hown2
    go_enter Tryd.func36, Tryd.ntmps36
    go_wp2_with (go_at_call 66; refine (CI).mono ?_; rintro e w1 ⟨rfl, hb1⟩)
    go_ret
    refine ⟨_, rfl, ?_, hb1.mono hB⟩
    rw [HF.out]
    obtain ⟨hl, ho⟩ := HOWN.out
    refine ⟨hl, ?_⟩
    rcases ho with ⟨h1, h2⟩ | ⟨g, cap, cur, h1, h2, h3, h4⟩
    · exact .inl ⟨h1, h2⟩
    · refine .inr ⟨g, cap, cur, h1, h2, (hb1.block g ?_).trans h3, h4⟩
      exact (HOWN.out.lt g (by rw [h1]; rfl)).2
  · rw [e1] at CI
    rcases hown2 with ⟨h1, h2⟩ | ⟨g, cap, cur0, hv, hbg, hg, hnc, hcapm, hcs, htake⟩
    · exfalso; omega
    cases hv
    have hgw : g < w.heap.size := (HOWN.out.lt g rfl).2
    have hcl0 := HOWN.out.1
    have HK0 := Lib.hid (show (l.take (k0 + 1)).filter (fun x => !p x) = l.take k0 by
      rw [filter_step hk0, hpk, filter_all hall]; simp)
    have hf : ∀ x, (itC x).length = 4 := fun _ => rfl
    have HD0 := Lib.hid (rest_start hf htake (k0 + 1))
    have HT0 := Lib.hid (head_start hf htake (b := k0) (by omega))
    clear hall hpk e1 htake HOWN hcl0
    have hkm : ((k0 : Int) == -1) = false := by rw [beq_eq_false_iff_ne]; omega
    go_enter Tryd.func36, Tryd.ntmps36
    go_wp2_with (go_at_call 66; refine (CI).mono ?_; rintro e w1 ⟨rfl, hb1⟩)
    have hg1 := (hb1.block g hgw).trans hg
    have hB1 := hb1.mono hB
    clear hb1 hg CI
    go_loopw [5, 6] (fun i j wr => ∃ (a b : Nat) (cur : Array Value), a < b ∧ b ≤ l.length ∧ i = .int .i64 a ∧ j = .int .i64 b ∧ wr.heap[g]? = some (.cells cur 32 (0, 0)) ∧ cur.size = cv * 4 ∧ ((l.take b).filter (fun x => !p x)).length = a ∧ cur.toList.take (a * 4) = ((l.take b).filter (fun x => !p x)).flatMap itC ∧ (cur.toList.drop (b * 4)).take ((l.length - b) * 4) = (l.drop b).flatMap itC ∧ Below B w wr) (fun _ j _ => l.length - (intOf j).toNat)
    case atStart => exact ⟨k0, k0 + 1, cur0, by omega, by omega, by go_num, by go_num, hg1, hcs, by rw [HK0.out, List.length_take]; omega, by rw [HK0.out]; exact HT0.out, HD0.out, hB1⟩
    case round =>
      obtain ⟨a1, b1, cur, hab, hbl, rfl, rfl, hg2, hcs2, hfl, hft, hfd, hBw⟩ := hrel
      have HFL := Lib.hid hfl
      have HFT := Lib.hid hft
      have HFD := Lib.hid hfd
      have hszw := hBw.size
      have hgl := heap_lt hg2
      have hB2 : B ≤ wr.heap.size := by omega
      by_cases h1 : b1 < l.length
      · have hcel := rest_at hf h1 hfd
        have HON := Lib.hid (rest_on hf h1 hfd)
        have HST := Lib.hid (filter_step (p := p) h1)
        clear hfl hft hfd
        generalize l[b1] = y at *
        obtain ⟨qb, hqb⟩ : ∃ qb, p y = qb := ⟨_, rfl⟩
        have CL := fun w' h => HP.out y w' h
        rw [hqb] at CL HST
        clear hqb
        obtain ⟨p0, d0, x0, s0⟩ := y
        have hc1 := heap_cell hg2 (j := b1 * 4) (v := S p0) (by simpa using hcel 0 _ rfl); have hc2 := heap_cell hg2 (j := b1 * 4 + 1) (v := .bool d0) (by simpa using hcel 1 _ rfl); have hc3 := heap_cell hg2 (j := b1 * 4 + 2) (v := .bool x0) (by simpa using hcel 2 _ rfl); have hc4 := heap_cell hg2 (j := b1 * 4 + 3) (v := S s0) (by simpa using hcel 3 _ rfl)
        have CL2 := CL (wr.alloc (.cells #[S p0, .bool d0, .bool x0, S s0] 32)) (hBw.alloc hB2 _)
        clear CL hcel
        have h1' : (b1 : Int) < (l.length : Int) := by omega
        cases qb with
        | true =>
          have HS := Lib.hid (show (l.take (b1 + 1)).filter (fun x => !p x) = (l.take b1).filter (fun x => !p x) by rw [HST.out]; simp)
          clear HST
          go_wp2_with (refine CL2.mono ?_; rintro e w2 ⟨rfl, hb2⟩)
          have hg3 := heap_later (heap_later hg2 ((Below.refl wr.heap.size wr).alloc (Nat.le_refl _) (.cells #[S p0, .bool d0, .bool x0, S s0] 32)) hgl) hb2 (by simp; omega)
          have hb3 : Below B w w2 := (hBw.alloc hB2 _).trans (hb2.mono (by simp; omega))
          clear hb2
          go_roundw
          case rel => exact ⟨a1, b1 + 1, cur, by omega, by omega, rfl, by go_num, hg3, hcs2, by rw [HS.out]; exact HFL.out, by rw [HS.out]; exact HFT.out, HON.out, hb3⟩
          case measure => simp [intOf]; omega
        | false =>
          have HS := Lib.hid (show (l.take (b1 + 1)).filter (fun x => !p x) = (l.take b1).filter (fun x => !p x) ++ [(p0, d0, x0, s0)] by rw [HST.out]; simp)
          clear HST
          have hab2 : (a1 : Int) < (l.length : Int) := by omega
          have hall := (Below.refl wr.heap.size wr).alloc (Nat.le_refl _) (.cells #[S p0, .bool d0, .bool x0, S s0] 32)
          go_wp2_with (refine CL2.mono ?_; rintro e w2 ⟨rfl, hb2⟩; have hg3 := heap_later (heap_later hg2 hall hgl) hb2 (by simp; omega); have hf1 := heap_free hg3; have hn1 := cell_below hb2 (cell_new wr #[S p0, .bool d0, .bool x0, S s0] 32 0 rfl); have hn2 := cell_below hb2 (cell_new wr #[S p0, .bool d0, .bool x0, S s0] 32 1 rfl); have hn3 := cell_below hb2 (cell_new wr #[S p0, .bool d0, .bool x0, S s0] 32 2 rfl); have hn4 := cell_below hb2 (cell_new wr #[S p0, .bool d0, .bool x0, S s0] 32 3 rfl); obtain ⟨u1, hu1⟩ := heap_has hg3 (j := a1 * 4) (by omega); obtain ⟨u2, hu2⟩ := heap_has hg3 (j := a1 * 4 + 1) (by omega); obtain ⟨u3, hu3⟩ := heap_has hg3 (j := a1 * 4 + 2) (by omega); obtain ⟨u4, hu4⟩ := heap_has hg3 (j := a1 * 4 + 3) (by omega))
          have hb3 : Below B w w2 := (hBw.alloc hB2 _).trans (hb2.mono (by simp; omega))
          clear hb2
          go_roundw
          case rel =>
            have hsp := setAll_splice (itC (p0, d0, x0, s0)) cur (a1 * 4) (by rw [hf]; omega)
            have hssz : (setAll cur (a1 * 4) (itC (p0, d0, x0, s0))).size = cv * 4 := by
              rw [← Array.length_toList, hsp, length_splice _ _ _ (by rw [hf]; simp; omega)]; simpa using hcs2
            refine ⟨a1 + 1, b1 + 1, setAll cur (a1 * 4) (itC (p0, d0, x0, s0)), by omega, by omega, by go_num, by go_num, heap_set_cell (heap_set_cell (heap_set_cell (heap_set_cell hg3 _) _) _) _, hssz, ?_, ?_, ?_, (((hb3.setCell hbg _).setCell hbg _).setCell hbg _).setCell hbg _⟩
            · rw [HS.out, List.length_append, HFL.out]; rfl
            · rw [HS.out, List.flatMap_append, ← HFT.out, hsp, show (a1 + 1) * 4 = a1 * 4 + (itC (p0, d0, x0, s0)).length by rw [hf]; omega, take_splice (by rw [hf]; simp; omega)]; simp
            · rw [hsp, drop_splice (by rw [hf]; simp; omega) (by rw [hf]; omega)]; exact HON.out
          case measure => simp [intOf]; omega
      · obtain rfl : b1 = l.length := by omega
        have h1' : ¬ (l.length : Int) < (l.length : Int) := by omega
        rw [List.take_of_length_le (Nat.le_refl _)] at hfl hft
        have HFL := Lib.hid hfl
        have HFT := Lib.hid hft
        clear hfl hft hfd
        have hcv : ¬ cv = a1 := by omega
        have hab2 : (a1 : Int) ≤ (l.length : Int) := by omega
        have HG2 := Lib.hid (show wr.heap[g]? = some (.cells cur.toList.toArray 32 (0, 0)) by simpa using hg2)
        have HFIT := Lib.hid (show a1 * 4 + (l.length - a1) * 4 ≤ cur.toList.length by simp; omega)
        have HZ1 := Lib.hid (show ∀ v ∈ (.agg #[.string ⟨#[]⟩, .bool false, .bool false, .string ⟨#[]⟩] : Value).cells, v.oneCell' = true by decide)
        have HZ0 := Lib.hid (show (.agg #[.string ⟨#[]⟩, .bool false, .bool false, .string ⟨#[]⟩] : Value).cells.size = 4 by rfl)
        go_wp2_with (with_reducible refine wpList_clear_k 4 rfl (.tmp 38) 22 rfl 32 i0 (.agg #[.string ⟨#[]⟩, .bool false, .bool false, .string ⟨#[]⟩]) Tryd.underlying22 hi0 hz0 HZ0.out HZ1.out g (a1 * 4) (l.length - a1) (cv - a1) rfl cur.toList 32 HG2.out HFIT.out (by decide) B w hBw hbg ?_)
        intro w2 zs hzl hg3 hb3
        go_wp2
        go_ret
        refine ⟨_, rfl, ⟨flat_lenK hf _, .inr ⟨g, cv, _, by rw [HFL.out]; rfl, hbg, hg3.out, ?_, hcm, ?_, ?_⟩⟩, hb3⟩
        · rw [HFL.out]; omega
        · rw [List.size_toArray, length_splice _ _ _ (by simp; omega)]; simpa using hcs2
        · rw [HFL.out, List.toList_toArray, ← HFT.out]
          unfold splice
          rw [List.take_append_of_le_length (by simp; omega), List.take_take, Nat.min_self]
end Go.Proofs.YtdkmnolljllddaaDoor
