/- slices.IndexFunc and slices.DeleteFunc, at string; the closure by its contract. -/
import Derived.Test.YtocommjoncchpaaGreatDoorJNodeBack
namespace Go.Proofs.YtocommjoncchpaaGreatDoor
open Go.RowKit

theorem rest1_start {l : List (List UInt8)} {L : List Value} (h : L.take l.length = l.map S) (b : Nat) : (L.drop b).take (l.length - b) = (l.drop b).map S := by
  rw [List.map_drop, ← h, List.drop_take]
theorem head1_start {l : List (List UInt8)} {L : List Value} (h : L.take l.length = l.map S) {b : Nat} (hb : b ≤ l.length) : L.take b = (l.take b).map S := by
  rw [List.map_take, ← h, List.take_take, Nat.min_eq_left hb]
theorem rest1_at {l : List (List UInt8)} {L : List Value} {b : Nat} (hb : b < l.length) (h : (L.drop b).take (l.length - b) = (l.drop b).map S) : L[b]? = some (S l[b]) := by
  have h2 : ((L.drop b).take (l.length - b))[0]? = some (S l[b]) := by rw [h]; simp [hb]
  rw [List.getElem?_take_of_lt (by omega), List.getElem?_drop] at h2
  simpa using h2
theorem rest1_on {l : List (List UInt8)} {L : List Value} {b : Nat} (h : (L.drop b).take (l.length - b) = (l.drop b).map S) : (L.drop (b + 1)).take (l.length - (b + 1)) = (l.drop (b + 1)).map S := by
  have h2 := congrArg (List.drop 1) h
  rw [List.drop_take, List.drop_drop, ← List.map_drop, List.drop_drop] at h2
  rw [← h2]
  congr 1
section
variable {P : Program}
theorem wpList_clear_1 {w : World} {ops : Array Oper} {rest : List Oper} {o : Oper} {a : Act} {Q : Exit → Act → World → Prop} (hgd : o.guard = none) (s : Operand) (t : TypeId)
    (ho : o.op = .call { callee := .builtin .clear, args := #[s], argTypes := #[t] }) (e : TypeId) (i0 : TypeInfo) (z : Value) (ht : P.underlying t = some (.slice e)) (hi : P.info? e = some i0) (hz : i0.zero = some z) (hk : z.cells.size = 1) (h1 : ∀ v ∈ z.cells, v.oneCell' = true)
    (g off n c : Nat) (hs : a.eval s = .slice (some ⟨g, off, none⟩) n c) (cur : List Value) (et : TypeId) (hg : w.heap[g]? = some (.cells cur.toArray et (0, 0))) (hfit : off + n ≤ cur.length) (B : Nat) (w0 : World) (hb : Below B w0 w) (hBg : B ≤ g)
    (h : ∀ w' zs, zs.length = n → Hid (w'.heap[g]? = some (.cells (splice cur off zs).toArray et (0, 0))) → Below B w0 w' → wpList P ops Q rest (a.put o.dst (.tuple #[])) w') :
    wpList P ops Q (o :: rest) a w :=
  wpList_clear_k 1 hgd s t ho e i0 z ht hi hz hk h1 g off n c hs cur et hg (by omega) (by decide) B w0 hb hBg (fun w' zs hl => h w' zs (by omega))
end

theorem delInfoStr : (Tryz.prog.info? 9).map (fun i => (i.zero, i.size, i.bytes)) = some (some (.string ⟨#[]⟩), 1, 16) := by kernel_rfl

set_option maxHeartbeats 2000000 in
set_option maxRecDepth 100000 in
theorem idxStr_walk (g0 : Nat) (caps : Array Value) (p : (List UInt8) → Bool) (a : Option Addr) (c : Nat) (l : List (List UInt8)) (w : World) (hr : StrRow w (.slice a l.length c) l) (hcnt : l.length ≤ 1100000)
    (hen : ∀ args w, (callFunc g0 args).run Tryz.prog w = .ok (.enter g0 args) w)
    (hp : ∀ x w', Below w.heap.size w w' → Calls Tryz.prog g0 (#[S x] ++ caps) w' fun e w'' => e = .returned (.bool (p x)) ∧ Below w'.heap.size w' w'') :
    Calls Tryz.prog 58 #[.slice a l.length c, .func (.func g0) #[] caps] w fun e w' => e = .returned (.int .i64 (idxP p l)) ∧ Below w.heap.size w w' := by
  obtain ⟨a', c', hv, hc, hm, hx⟩ := hr
  cases hv
  have HX := Lib.hid hx
  have HP := Lib.hid hp
  clear hx hp
  go_enter Tryz.func58, Tryz.ntmps58
  go_wp2
  go_loopw [8] (fun i wr => ∃ k : Nat, k ≤ l.length ∧ i = .int .i64 k ∧ (∀ x ∈ l.take k, p x = false) ∧ Below w.heap.size w wr) (fun i _ => l.length - (intOf i).toNat)
  case atStart => exact ⟨0, Nat.zero_le _, rfl, by simp, Below.refl _ _⟩
  case round =>
    obtain ⟨k, hk, rfl, hall, hB⟩ := hrel
    have HALL := Lib.hid hall
    have HB := Lib.hid hB
    clear hall
    by_cases h1 : k < l.length
    · have hx := HX.out
      rcases hx with hx | ⟨b, o, rfl, hx⟩
      · exfalso; rw [hx] at h1; simp at h1
      have hx1 := str_cell hx h1
      have HE := Lib.hid (fun h => idxP_at h1 HALL.out h)
      have HN := Lib.hid (fun h => none_step h1 HALL.out h)
      clear hx
      generalize l[k] = y at *
      have CL := fun w' h => HP.out y w' h
      obtain ⟨qb, hqb⟩ : ∃ qb, p y = qb := ⟨_, rfl⟩
      rw [hqb] at CL HE HN
      clear hqb
      have hc1 := cell_below hB hx1; clear hx1
      have h1' : (k : Int) < (l.length : Int) := by omega
      have CL2 := CL wr hB
      clear hB CL
      cases qb with
      | true =>
        have HF := Lib.hid (HE.out rfl)
        clear HE HN
        go_wp2_with (refine CL2.mono ?_; rintro e w1 ⟨rfl, hb1⟩)
        go_ret
        exact ⟨by rw [HF.out]; rfl, below_chain HB.out hb1 HB.out.size⟩
      | false =>
        have HF := Lib.hid (HN.out rfl)
        clear HE HN
        go_wp2_with (refine CL2.mono ?_; rintro e w1 ⟨rfl, hb1⟩)
        go_roundw
        case rel => exact ⟨k + 1, by omega, by go_num, HF.out, below_chain HB.out hb1 HB.out.size⟩
        case measure => simp [intOf]; omega
    · have h1' : ¬ (k : Int) < (l.length : Int) := by omega
      have HF := Lib.hid (show idxP p l = -1 from idxP_none (by have := HALL.out; rwa [List.take_of_length_le (by omega)] at this))
      go_wp2
      go_ret
      exact ⟨by rw [HF.out]; rfl, HB.out⟩

set_option maxHeartbeats 4000000 in
set_option maxRecDepth 100000 in
theorem delStr_walk (g0 : Nat) (caps : Array Value) (p : (List UInt8) → Bool) (B : Nat) (v : Value) (l : List (List UInt8)) (w : World) (hown : w.ownsRow B 9 1 v l.length (l.map S)) (hcnt : l.length ≤ 1100000) (hB : B ≤ w.heap.size)
    (hen : ∀ args w, (callFunc g0 args).run Tryz.prog w = .ok (.enter g0 args) w) (hrg : StrRow w v l)
    (hp : ∀ x w', Below B w w' → Calls Tryz.prog g0 (#[S x] ++ caps) w' fun e w'' => e = .returned (.bool (p x)) ∧ Below w'.heap.size w' w'') :
    Calls Tryz.prog 39 #[v, .func (.func g0) #[] caps] w fun e w' => ∃ v', e = .returned v' ∧ w'.ownsRow B 9 1 v' (l.filter (fun x => !p x)).length ((l.filter (fun x => !p x)).map S) ∧ Below B w w' := by
  obtain ⟨i0, hi0, hz0, hz1, hz2⟩ := info_parts delInfoStr
  obtain ⟨av, cv, rfl, _, hcm, hxx⟩ := hrg
  have CI := idxStr_walk g0 caps p av cv l w ⟨av, cv, rfl, by assumption, hcm, hxx⟩ hcnt hen (fun x w' h => hp x w' (h.mono hB))
  have HOWN := Lib.hid hown
  have HP := Lib.hid hp
  have hown2 := hown.2
  clear hxx hown hp
  rcases idxP_cases p l with ⟨e1, hall⟩ | ⟨k0, hk0, e1, hall, hpk⟩
  · have HF := Lib.hid (filter_all hall)
    rw [e1] at CI
    clear hall e1 hown2
    go_enter Tryz.func39, Tryz.ntmps39
    go_wp2_with (go_at_call 58; refine (CI).mono ?_; rintro e w1 ⟨rfl, hb1⟩)
    go_ret
    refine ⟨_, rfl, ?_, hb1.mono hB⟩
    rw [HF.out]
    obtain ⟨hl, ho⟩ := HOWN.out
    refine ⟨hl, ?_⟩
    rcases ho with ⟨h1, h2⟩ | ⟨g, cap, cur, h1, h2, h3, h4⟩
    · exact .inl ⟨h1, h2⟩
    · refine .inr ⟨g, cap, cur, h1, h2, (hb1.block g ?_).trans h3, h4⟩
      exact (HOWN.out.lt g (by rw [h1]; rfl)).2
  · rw [e1] at CI
    rcases hown2 with ⟨h1, h2⟩ | ⟨g, cap, cur0, hv, hbg, hg, hnc, hcapm, hcs, htake⟩
    · exfalso; omega
    cases hv
    rw [Nat.mul_one] at hcs htake
    have hgw : g < w.heap.size := (HOWN.out.lt g rfl).2
    have hcl0 := HOWN.out.1
    have HK0 := Lib.hid (show (l.take (k0 + 1)).filter (fun x => !p x) = l.take k0 by
      rw [filter_step hk0, hpk, filter_all hall]; simp)
    have HD0 := Lib.hid (rest1_start htake (k0 + 1))
    have HT0 := Lib.hid (head1_start htake (b := k0) (by omega))
    clear hall hpk e1 htake HOWN hcl0
    have hkm : ((k0 : Int) == -1) = false := by rw [beq_eq_false_iff_ne]; omega
    go_enter Tryz.func39, Tryz.ntmps39
    go_wp2_with (go_at_call 58; refine (CI).mono ?_; rintro e w1 ⟨rfl, hb1⟩)
    have hg1 := (hb1.block g hgw).trans hg
    have hB1 := hb1.mono hB
    clear hb1 hg CI
    go_loopw [5, 6] (fun i j wr => ∃ (a b : Nat) (cur : Array Value), a < b ∧ b ≤ l.length ∧ i = .int .i64 a ∧ j = .int .i64 b ∧ wr.heap[g]? = some (.cells cur 9 (0, 0)) ∧ cur.size = cv ∧ ((l.take b).filter (fun x => !p x)).length = a ∧ cur.toList.take (a) = ((l.take b).filter (fun x => !p x)).map S ∧ (cur.toList.drop (b)).take ((l.length - b)) = (l.drop b).map S ∧ Below B w wr) (fun _ j _ => l.length - (intOf j).toNat)
    case atStart => exact ⟨k0, k0 + 1, cur0, by omega, by omega, by go_num, by go_num, hg1, hcs, by rw [HK0.out, List.length_take]; omega, by rw [HK0.out]; exact HT0.out, HD0.out, hB1⟩
    case round =>
      obtain ⟨a1, b1, cur, hab, hbl, rfl, rfl, hg2, hcs2, hfl, hft, hfd, hBw⟩ := hrel
      have HFL := Lib.hid hfl
      have HFT := Lib.hid hft
      have HFD := Lib.hid hfd
      have hszw := hBw.size
      have hgl := heap_lt hg2
      have hB2 : B ≤ wr.heap.size := by omega
      by_cases h1 : b1 < l.length
      · have hcel := rest1_at h1 hfd
        have HON := Lib.hid (rest1_on hfd)
        have HST := Lib.hid (filter_step (p := p) h1)
        clear hfl hft hfd
        generalize l[b1] = y at *
        obtain ⟨qb, hqb⟩ : ∃ qb, p y = qb := ⟨_, rfl⟩
        have CL := fun w' h => HP.out y w' h
        rw [hqb] at CL HST
        clear hqb
        have hc1 := heap_cell hg2 (j := b1) (v := S y) (by simpa using hcel)
        have CL2 := CL wr hBw
        clear CL hcel
        have h1' : (b1 : Int) < (l.length : Int) := by omega
        cases qb with
        | true =>
          have HS := Lib.hid (show (l.take (b1 + 1)).filter (fun x => !p x) = (l.take b1).filter (fun x => !p x) by rw [HST.out]; simp)
          clear HST
          go_wp2_with (refine CL2.mono ?_; rintro e w2 ⟨rfl, hb2⟩)
          have hg3 := heap_later hg2 hb2 (by omega)
          have hb3 : Below B w w2 := hBw.trans (hb2.mono (by omega))
          clear hb2
          go_roundw
          case rel => exact ⟨a1, b1 + 1, cur, by omega, by omega, rfl, by go_num, hg3, hcs2, by rw [HS.out]; exact HFL.out, by rw [HS.out]; exact HFT.out, HON.out, hb3⟩
          case measure => simp [intOf]; omega
        | false =>
          have HS := Lib.hid (show (l.take (b1 + 1)).filter (fun x => !p x) = (l.take b1).filter (fun x => !p x) ++ [y] by rw [HST.out]; simp)
          clear HST
          have hab2 : (a1 : Int) < (l.length : Int) := by omega
          go_wp2_with (refine CL2.mono ?_; rintro e w2 ⟨rfl, hb2⟩; have hg3 := heap_later hg2 hb2 (by omega); have hf1 := heap_free hg3; obtain ⟨u1, hu1⟩ := heap_has hg3 (j := a1) (by omega))
          have hb3 : Below B w w2 := hBw.trans (hb2.mono (by omega))
          clear hb2
          go_roundw
          case rel =>
            have hsp : (cur.setIfInBounds a1 (S y)).toList = splice cur.toList a1 [S y] := by
              have := setAll_splice [S y] cur a1 (by simp; omega); simpa [setAll] using this
            refine ⟨a1 + 1, b1 + 1, cur.setIfInBounds a1 (S y), by omega, by omega, by go_num, by go_num, heap_set_cell hg3 _, by simpa using hcs2, ?_, ?_, ?_, hb3.setCell hbg _⟩
            · rw [HS.out, List.length_append, HFL.out]; rfl
            · rw [HS.out, List.map_append, ← HFT.out, hsp, show a1 + 1 = a1 + ([S y] : List Value).length from rfl, take_splice (by simp; omega)]; simp
            · rw [hsp, drop_splice (by simp; omega) (by simp; omega)]; exact HON.out
          case measure => simp [intOf]; omega
      · obtain rfl : b1 = l.length := by omega
        have h1' : ¬ (l.length : Int) < (l.length : Int) := by omega
        rw [List.take_of_length_le (Nat.le_refl _)] at hfl hft
        have HFL := Lib.hid hfl
        have HFT := Lib.hid hft
        clear hfl hft hfd
        have hcv : ¬ cv = a1 := by omega
        have hab2 : (a1 : Int) ≤ (l.length : Int) := by omega
        have HG2 := Lib.hid (show wr.heap[g]? = some (.cells cur.toList.toArray 9 (0, 0)) by simpa using hg2)
        have HFIT := Lib.hid (show a1 + (l.length - a1) ≤ cur.toList.length by simp; omega)
        have HZ1 := Lib.hid (show ∀ v ∈ (.string ⟨#[]⟩ : Value).cells, v.oneCell' = true by decide)
        have HZ0 := Lib.hid (show (.string ⟨#[]⟩ : Value).cells.size = 1 by rfl)
        go_wp2_with (with_reducible refine wpList_clear_1 rfl (.tmp 38) 31 rfl 9 i0 (.string ⟨#[]⟩) Tryz.underlying31 hi0 hz0 HZ0.out HZ1.out g a1 (l.length - a1) (cv - a1) rfl cur.toList 9 HG2.out HFIT.out B w hBw hbg ?_)
        intro w2 zs hzl hg3 hb3
        go_wp2
        go_ret
        refine ⟨_, rfl, ⟨by simp, .inr ⟨g, cv, _, by rw [HFL.out]; rfl, hbg, hg3.out, ?_, hcm, ?_, ?_⟩⟩, hb3⟩
        · rw [HFL.out]; omega
        · rw [List.size_toArray, length_splice _ _ _ (by simp; omega)]; simpa using hcs2
        · rw [Nat.mul_one, HFL.out, List.toList_toArray, ← HFT.out]
          unfold splice
          rw [List.take_append_of_le_length (by simp; omega), List.take_take, Nat.min_self]
end Go.Proofs.YtocommjoncchpaaGreatDoor
