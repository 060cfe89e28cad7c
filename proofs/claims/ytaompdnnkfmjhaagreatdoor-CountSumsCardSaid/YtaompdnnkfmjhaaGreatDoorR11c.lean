/- The reference's bytes of a node. -/
import Derived.Test.YtaompdnnkfmjhaaGreatDoorJNodePlain
import Derived.Test.YtaompdnnkfmjhaaGreatDoorJR11
import Derived.Test.YtaompdnnkfmjhaaGreatDoorJCPlus
import Derived.Test.YtaompdnnkfmjhaaGreatDoorJPFit11
import Derived.Test.YtaompdnnkfmjhaaGreatDoorJAny
namespace Go.Proofs.YtaompdnnkfmjhaaGreatDoor
open Go.RowKit

def headW (n : Nod) : List UInt8 := UInt8.ofNat n.kind.toNat :: n.data ++ (if n.kind = 2 then putV n.parts.length else [])
def midW (n : Nod) : List UInt8 := headW n ++ n.parts.flatMap partW ++ (if n.kind = 3 then putV n.ents.length else [])
theorem writeN_parts {n : Nod} (hf : FitN n) : writeN n = midW n ++ n.ents.flatMap entW := by
  unfold writeN
  rw [if_pos (fitN_iff.2 hf)]
  obtain ⟨k, d, ps, es⟩ := n
  unfold midW headW bodyN
  rcases hf with ⟨h1, h2, h3, h4, h5⟩ | ⟨h1, h2, h3, h4⟩ | ⟨h1, h2, h3, h4⟩
  · simp only at h1 h4 h5; subst h1 h4 h5; simp
  · simp only at h1 h2 h3; subst h1 h2 h3; simp
  · simp only at h1 h2 h3; subst h1 h2 h3; simp
theorem partW_len {p : Prt} (h : partOk p = true) : (partW p).length ≤ 42 := by
  unfold partOk at h
  simp only [Bool.and_eq_true, beq_iff_eq, decide_eq_true_eq] at h
  have := putV_len (n := p.2.toNat) (by omega)
  unfold partW
  rw [List.length_append]; omega
theorem putText_len (t : List UInt8) (h : t.length < 18446744073709551616) : (putText t).length ≤ 10 + t.length := by
  unfold putText
  split
  · simp
  · have := putV_len (n := t.length) (by omega)
    rw [List.length_append]; omega
theorem entW_len {e : Ent} (h : entOk e = true) : (entW e).length ≤ 74 := by
  unfold entOk at h
  simp only [Bool.and_eq_true, beq_iff_eq] at h
  have h1 := nameB_len h.2.2
  have h2 := putText_len e.1 (by omega)
  unfold entW
  simp only [List.length_append, List.length_cons, List.length_nil]
  omega
theorem flat_bound {α : Type} {f : α → List UInt8} {B : Nat} : ∀ {l : List α}, (∀ x ∈ l, (f x).length ≤ B) → (l.flatMap f).length ≤ B * l.length
  | [], _ => by simp
  | x :: l, h => by
    have h1 := h x List.mem_cons_self
    have h2 := flat_bound (l := l) (fun y hy => h y (List.mem_cons_of_mem _ hy))
    rw [List.flatMap_cons, List.length_append, List.length_cons, Nat.mul_succ]
    omega
theorem headW_len {n : Nod} (hf : FitN n) : (headW n).length ≤ 4200 := by
  unfold headW
  rw [List.length_append, List.length_cons]
  rcases hf with ⟨h1, h2, h3, h4, h5⟩ | ⟨h1, h2, h3, h4⟩ | ⟨h1, h2, h3, h4⟩
  · rw [if_neg (by omega)]; simp; omega
  · rw [if_pos h1, h2]
    have := putV_len (n := n.parts.length) (by have := h4.len; omega)
    simp; omega
  · rw [if_neg (by omega), h2]; simp
theorem flat_step {α : Type} {f : α → List UInt8} {l : List α} {k : Nat} (h : k < l.length) : (l.take (k + 1)).flatMap f = (l.take k).flatMap f ++ f l[k] := by
  rw [List.take_succ_eq_append_getElem h, List.flatMap_append]; simp
theorem flat_take_len {α : Type} {f : α → List UInt8} {B : Nat} {l : List α} (h : ∀ x ∈ l, (f x).length ≤ B) {k : Nat} (hk : k ≤ l.length) : ((l.take k).flatMap f).length ≤ B * k := by
  have := flat_bound (f := f) (B := B) (l := l.take k) (fun x hx => h x (List.mem_of_mem_take hx))
  rwa [List.length_take, Nat.min_eq_left hk] at this

theorem run_conv1 (c : Nat) (b : UInt8) (W : World) (g : Nat) (h : W.cell? ⟨g, 0, none⟩ = some (.int .u8 (b.toNat : Int))) : (convert 113 9 (.slice (some ⟨g, 0, none⟩) 1 c)).run Tryz.prog W = .ok (.string ⟨#[b]⟩) W := by
  refine run_convert_bytes_back W _ _ 5 _ _ [b] Tryz.underlying113 Tryz.underlying5 Tryz.underlying9 fun j hj => ?_
  obtain rfl : j = 0 := by simp at hj; omega
  simpa [Addr.add] using h

set_option maxHeartbeats 8000000 in
set_option maxRecDepth 100000 in
theorem rwrite11_walk (vp ve : Value) (n : Nod) (w : World) (hr : NodRow w n vp ve) (hd : n.data.length ≤ 1100000) (hp : n.parts.length ≤ 1100000) (he : n.ents.length ≤ 1100000) (hnl : ∀ e ∈ n.ents, e.1.length ≤ 1100000) :
    Calls Tryz.prog 39 #[NodV n vp ve] w fun e w' => e = .returned (S (writeN n)) ∧ Below w.heap.size w w' := by
  obtain ⟨kd, hkd⟩ : ∃ kd, n.kind = kd := ⟨_, rfl⟩
  obtain ⟨d, hd'⟩ : ∃ d, n.data = d := ⟨_, rfl⟩
  obtain ⟨w1, hw1, hB1, hz⟩ : ∃ w1, w1 = w.alloc (.cells #[.int .i64 kd, S d, vp, ve] 36) ∧ Below w.heap.size w w1 ∧ w1.heap[w.heap.size]? = some (.cells #[.int .i64 kd, S d, vp, ve] 36 (0, 0)) :=
    ⟨_, rfl, (Below.refl _ _).alloc (Nat.le_refl _) _, heap_alloc_new _ _⟩
  have hr1 := hr.below hB1
  have CF := rfit11_walk vp ve n w1 hr1 hd hp he hnl
  have HW := Lib.hid (fun h : FitN n => writeN_parts h)
  have HW0 := Lib.hid (fun h : fitN n = false => (show writeN n = [] by unfold writeN; rw [h]; rfl))
  have HFT := Lib.hid (fun h : fitN n = true => fitN_iff.1 h)
  have HR1 := Lib.hid hr1
  have HR := Lib.hid hr
  have HHD := Lib.hid (show headW n = UInt8.ofNat kd.toNat :: d ++ (if kd = 2 then putV n.parts.length else []) by rw [← hkd, ← hd']; rfl)
  have HMD := Lib.hid (show midW n = headW n ++ n.parts.flatMap partW ++ (if kd = 3 then putV n.ents.length else []) by rw [← hkd]; rfl)
  have HKD := Lib.hid hkd
  have HDD := Lib.hid hd'
  unfold NodV
  rw [hkd, hd']
  unfold NodV at CF
  rw [hkd, hd'] at CF
  generalize writeN n = wn at *
  obtain ⟨⟨z0, z1, z2, z3⟩, -, -⟩ := box4 hz
  clear hr hr1 hnl hkd hd'
  go_enter Tryz.func39, Tryz.ntmps39
  go_upto_region 1 with fail
  rw [← hw1]
  clear hw1
  cases hfb : fitN n with
  | false =>
    rw [hfb] at CF
    have HF := Lib.hid (HW0.out hfb)
    clear hfb
    go_wp2_with (go_at_call 38; refine (CF).mono ?_; rintro e w2 ⟨rfl, hb2⟩)
    go_ret
    exact ⟨by rw [HF.out]; rfl, below_chain hB1 hb2 hB1.size⟩
  | true =>
  rw [hfb] at CF
  have hft := HFT.out hfb
  obtain ⟨s1, s2, s3, s4, s5, s6, s7⟩ := fit_sizes hft
  rw [HKD.out] at s6 s7
  rw [HDD.out] at s3
  have hhl := headW_len hft
  have HWN := Lib.hid (HW.out hft)
  have hpl : ∀ p ∈ n.parts, (partW p).length ≤ 42 := fun p h => partW_len (s4 p h)
  have hel : ∀ e ∈ n.ents, (entW e).length ≤ 74 := fun e h => entW_len (s5 e h)
  have HS4 := Lib.hid s4
  have HS5 := Lib.hid s5
  have HPL := Lib.hid hpl
  have HEL := Lib.hid hel
  clear hfb hft HW HW0 HFT s4 s5 hpl hel
  go_wp2_with fail
  refine CF.mono ?_
  rintro e w2 ⟨rfl, hb2⟩
  clear CF
  have hz2 := (hb2.block _ (heap_lt hz)).trans hz
  have hB2 := below_chain hB1 hb2 hB1.size
  have hr2 := HR1.out.below hb2
  clear hz hB1 HR1 hb2 z0 z1 z2 z3
  obtain ⟨kb, hkb⟩ : ∃ kb, UInt8.ofNat kd.toNat = kb := ⟨_, rfl⟩
  have hkw : IntKind.u8.wrap kd = (kb.toNat : Nat) := by
    rw [← hkb, UInt8.toNat_ofNat']
    simp only [IntKind.wrap, IntKind.bits, IntKind.signed]; simp; omega
  have hcv := run_conv1 1 kb
  obtain ⟨D0, hD0⟩ : ∃ D, kb :: d = D := ⟨_, rfl⟩
  have hcat0 : (⟨#[kb]⟩ : ByteArray) ++ (⟨d.toArray⟩ : ByteArray) = ⟨D0.toArray⟩ := by rw [← hD0]; exact ba_cat [kb] d
  have hD0l : D0.length ≤ 4097 := by rw [← hD0, List.length_cons]; omega
  have hns0 : ¬ 9223372036854775807 < 1 + d.length := by omega
  have HHD2 := Lib.hid (show headW n = D0 ++ (if kd = 2 then putV n.parts.length else []) by rw [HHD.out, hkb, ← hD0])
  obtain ⟨⟨z0, z1, z2, z3⟩, -, -⟩ := box4 hz2
  have z0a := fun o => cell_old z0 o
  have z1a := fun o => cell_old z1 o
  obtain ⟨w3, hw3, hz3, hB3, hr3⟩ : ∃ w3, w3 = w2.alloc (.cells #[.int .u8 ((kb.toNat : Nat) : Int)] 5) ∧ w3.heap[w.heap.size]? = some (.cells #[.int .i64 kd, S d, vp, ve] 36 (0, 0)) ∧ Below w.heap.size w w3 ∧ NodRow w3 n vp ve :=
    ⟨_, rfl, (((Below.refl _ _).alloc (Nat.le_refl _) _).block _ (heap_lt hz2)).trans hz2, hB2.alloc hB2.size _, hr2.below ((Below.refl _ _).alloc (Nat.le_refl _) _)⟩
  clear hkb hD0 HHD
  go_upto_if 21 with fail
  rw [← hw3]
  clear hw3 z0a z1a z0 z1 z2 z3 hz2 hB2 hr2 hcat0 hcv
  obtain ⟨a1, c1, rfl⟩ := row_slice hr3.parts
  obtain ⟨a2, c2, rfl⟩ := row_slice hr3.ents
  clear hr3
  generalize headW n = Hd at *
  generalize midW n = Md at *
  go_cut [3] from 21 (fun v wc => v = S Hd ∧ wc.heap[w.heap.size]? = some (.cells #[.int .i64 kd, S d, .slice a1 n.parts.length c1, .slice a2 n.ents.length c2] 36 (0, 0)) ∧ Below w.heap.size w wc)
  case first =>
    obtain ⟨⟨z0, z1, z2, z3⟩, -, -⟩ := box4 hz3
    by_cases k2 : kd = 2
    · have k2' : (kd == 2) = true := by rw [beq_iff_eq]; exact k2
      have hlw : IntKind.u64.wrap (n.parts.length : Int) = (n.parts.length : Int) := by simp only [IntKind.wrap, IntKind.bits, IntKind.signed]; simp; omega
      have CP := r01put_walk n.parts.length w3 (by omega)
      have hpv := putV_len (n := n.parts.length) (by omega)
      have hh := HHD2.out
      rw [if_pos k2] at hh
      generalize putV n.parts.length = pv at *
      have hcat1 : (⟨D0.toArray⟩ : ByteArray) ++ (⟨pv.toArray⟩ : ByteArray) = ⟨Hd.toArray⟩ := by rw [hh]; exact ba_cat D0 pv
      have hns1 : ¬ 9223372036854775807 < D0.length + pv.length := by omega
      clear k2 hh
      go_wp2_with fail
      refine CP.mono ?_
      rintro e w4 ⟨rfl, hb4⟩
      go_wp2
      go_meet
      case rel => exact ⟨rfl, (hb4.block _ (heap_lt hz3)).trans hz3, below_chain hB3 hb4 hB3.size⟩
    · have k2' : (kd == 2) = false := by rw [beq_eq_false_iff_ne]; exact k2
      have hh := Lib.hid (show Hd = D0 by rw [HHD2.out, if_neg k2, List.append_nil])
      clear k2
      go_wp2
      go_meet
      case rel => exact ⟨by rw [hh.out], hz3, hB3⟩
  case rest =>
  obtain ⟨rfl, hz4, hB4⟩ := hcut
  clear hz3 hB3 HHD2 hD0l hns0 hkw
  go_wp2
  go_loopw [3, 4] (fun v i wr => ∃ k : Nat, k ≤ n.parts.length ∧ i = .int .i64 k ∧ v = S (Hd ++ (n.parts.take k).flatMap partW) ∧ wr.heap[w.heap.size]? = some (.cells #[.int .i64 kd, S d, .slice a1 n.parts.length c1, .slice a2 n.ents.length c2] 36 (0, 0)) ∧ Below w.heap.size w wr) (fun _ i _ => n.parts.length - (intOf i).toNat)
  case atStart => exact ⟨0, Nat.zero_le _, rfl, by simp, hz4, hB4⟩
  case round =>
    obtain ⟨k, hk, rfl, rfl, hzr, hB⟩ := hrel
    have HB := Lib.hid hB
    have HZR := Lib.hid hzr
    obtain ⟨⟨z0, z1, z2, z3⟩, -, -⟩ := box4 hzr
    have hfl := flat_take_len HPL.out hk
    by_cases h1 : k < n.parts.length
    · have h1' : (k : Int) < (n.parts.length : Int) := by omega
      obtain ⟨a, c, hv, -, -, hx⟩ := HR.out.parts
      cases hv
      rcases hx with hx | ⟨b, o, rfl, hx⟩
      · exfalso; rw [hx] at h1; simp at h1
      obtain ⟨hc1, hc2⟩ := prt_cells hx h1
      have l1 := LaterOf.cell (cell_below hB hc1)
      have l2 := LaterOf.cell (cell_below hB hc2)
      have l3 := LaterOf.cell z2
      have HST := Lib.hid (flat_step (f := partW) h1)
      have hok := HS4.out _ (List.getElem_mem h1)
      clear hx hc1 hc2 z0 z1 z3 hzr hB
      generalize hT : Hd ++ (n.parts.take k).flatMap partW = T at *
      have hTl : T.length ≤ 4200 + 42 * 1024 := by rw [← hT, List.length_append]; omega
      generalize n.parts[k] = y at *
      obtain ⟨key, sz⟩ := y
      unfold partOk at hok
      simp only [Bool.and_eq_true, beq_iff_eq, decide_eq_true_eq] at hok l1 l2 HST
      obtain ⟨N, rfl⟩ : ∃ N : Nat, sz = (N : Int) := ⟨sz.toNat, by omega⟩
      have CP := fun w => r01put_walk N w (by omega)
      have hpv := putV_len (n := N) (by omega)
      have HST2 := Lib.hid (show (n.parts.take (k + 1)).flatMap partW = (n.parts.take k).flatMap partW ++ (key ++ putV N) by rw [HST.out]; rfl)
      generalize putV N = pv at *
      obtain ⟨R, hR⟩ : ∃ R, T ++ key = R := ⟨_, rfl⟩
      obtain ⟨U, hU⟩ : ∃ U, R ++ pv = U := ⟨_, rfl⟩
      have hRl : R.length = T.length + key.length := by rw [← hR, List.length_append]
      have hcat1 : (⟨T.toArray⟩ : ByteArray) ++ (⟨key.toArray⟩ : ByteArray) = ⟨R.toArray⟩ := by rw [← hR]; exact ba_cat T key
      have hcat2 : (⟨R.toArray⟩ : ByteArray) ++ (⟨pv.toArray⟩ : ByteArray) = ⟨U.toArray⟩ := by rw [← hU]; exact ba_cat R pv
      have hns1 : ¬ 9223372036854775807 < T.length + key.length := by omega
      have hns2 : ¬ 9223372036854775807 < R.length + pv.length := by omega
      have hlw : IntKind.u64.wrap (N : Int) = (N : Int) := by simp only [IntKind.wrap, IntKind.bits, IntKind.signed]; simp; omega
      have HU := Lib.hid (show Hd ++ (n.parts.take (k + 1)).flatMap partW = U by rw [HST2.out, ← hU, ← hR, ← hT]; simp)
      clear hT hR hU HST HST2 hok hRl
      go_wp2
      (refine wp_region_later (by kernel_rfl) (by kernel_rfl) ?_; (repeat (go_big_quiet_step ((go_at_call 64; exact LaterOf.call _ (CP _))))); refine wpQuiet_nil ?_; intro _ hw1; obtain ⟨lw, hw2⟩ := hw1; subst hw2)
      go_wp2
      go_roundw
      case rel => exact ⟨k + 1, by omega, by go_num, by rw [HU.out], (lw.below.block _ (heap_lt HZR.out)).trans HZR.out, below_chain HB.out lw.below HB.out.size⟩
      case measure => simp [intOf]; omega
    · have h1' : ¬ (k : Int) < (n.parts.length : Int) := by omega
      obtain rfl : k = n.parts.length := by omega
      rw [List.take_of_length_le (Nat.le_refl _)] at hfl ⊢
      generalize hT : Hd ++ n.parts.flatMap partW = T at *
      have hTl : T.length ≤ 4200 + 42 * 1024 := by rw [← hT, List.length_append]; omega
      go_upto_if 55 with fail
      go_cut [3] from 55 (fun v wc => v = S Md ∧ wc.heap[w.heap.size]? = some (.cells #[.int .i64 kd, S d, .slice a1 n.parts.length c1, .slice a2 n.ents.length c2] 36 (0, 0)) ∧ Below w.heap.size w wc ∧ Md.length ≤ 60000)
      case first =>
        by_cases k3 : kd = 3
        · have k3' : (kd == 3) = true := by rw [beq_iff_eq]; exact k3
          have hlw : IntKind.u64.wrap (n.ents.length : Int) = (n.ents.length : Int) := by simp only [IntKind.wrap, IntKind.bits, IntKind.signed]; simp; omega
          have CP := r01put_walk n.ents.length wr (by omega)
          have hpv := putV_len (n := n.ents.length) (by omega)
          have hh := HMD.out
          rw [if_pos k3] at hh
          generalize putV n.ents.length = pv at *
          have hcat1 : (⟨T.toArray⟩ : ByteArray) ++ (⟨pv.toArray⟩ : ByteArray) = ⟨Md.toArray⟩ := by rw [hh]; exact ba_cat T pv
          have hns1 : ¬ 9223372036854775807 < T.length + pv.length := by omega
          have hml : Md.length ≤ 60000 := by rw [hh, List.length_append]; omega
          clear k3 hh
          go_wp2_with fail
          refine CP.mono ?_
          rintro e w4 ⟨rfl, hb4⟩
          go_wp2
          go_meet
          case rel => exact ⟨rfl, (hb4.block _ (heap_lt HZR.out)).trans HZR.out, below_chain HB.out hb4 HB.out.size, hml⟩
        · have k3' : (kd == 3) = false := by rw [beq_eq_false_iff_ne]; exact k3
          have hh : Md = T := by rw [HMD.out, if_neg k3, List.append_nil]
          have HH := Lib.hid hh
          clear k3 hh
          go_wp2
          go_meet
          case rel => exact ⟨by rw [HH.out], HZR.out, HB.out, by rw [HH.out]; omega⟩
      case rest =>
      obtain ⟨rfl, hz5, hB5, hml⟩ := hcut
      clear HZR HB hT hTl z0 z1 z2 z3 hzr hB hfl
      go_wp2
      go_loopw [3, 5] (fun v i wr => ∃ k : Nat, k ≤ n.ents.length ∧ i = .int .i64 k ∧ v = S (Md ++ (n.ents.take k).flatMap entW) ∧ wr.heap[w.heap.size]? = some (.cells #[.int .i64 kd, S d, .slice a1 n.parts.length c1, .slice a2 n.ents.length c2] 36 (0, 0)) ∧ Below w.heap.size w wr) (fun _ i _ => n.ents.length - (intOf i).toNat)
      case atStart => exact ⟨0, Nat.zero_le _, rfl, by simp, hz5, hB5⟩
      case round =>
        obtain ⟨k, hk, rfl, rfl, hzr, hB⟩ := hrel
        have HB := Lib.hid hB
        have HZR := Lib.hid hzr
        obtain ⟨⟨z0, z1, z2, z3⟩, -, -⟩ := box4 hzr
        have hfl := flat_take_len HEL.out hk
        by_cases h1 : k < n.ents.length
        · have h1' : (k : Int) < (n.ents.length : Int) := by omega
          obtain ⟨a, c, hv, -, -, hx⟩ := HR.out.ents
          obtain ⟨g1, g2⟩ : a2 = a ∧ c2 = c := by cases hv; exact ⟨rfl, rfl⟩
          subst g1 g2
          clear hv
          rcases hx with hx | ⟨b, o, rfl, hx⟩
          · exfalso; rw [hx] at h1; simp at h1
          obtain ⟨hc1, hc2, hc3, hc4⟩ := ent_cells hx h1
          replace hc1 := cell_below hB hc1
          replace hc2 := cell_below hB hc2
          replace hc3 := cell_below hB hc3
          replace hc4 := cell_below hB hc4
          have HST := Lib.hid (flat_step (f := entW) h1)
          have hok := HS5.out _ (List.getElem_mem h1)
          clear hx z0 z1 z2 hzr hB
          generalize hT : Md ++ (n.ents.take k).flatMap entW = T at *
          have hTl : T.length ≤ 60000 + 74 * 60 := by rw [← hT, List.length_append]; omega
          generalize n.ents[k] = y at *
          obtain ⟨nm, ek, ex, key⟩ := y
          simp only at hc1 hc2 hc3 hc4
          have hoks : (ek = 2 ∨ ek = 3) ∧ key.length ≤ 32 ∧ nm.length ≤ 31 := by
            unfold entOk at hok
            simp only [Bool.and_eq_true, Bool.or_eq_true, beq_iff_eq] at hok
            exact ⟨hok.1.elim .inl (fun h => .inr h.1), Nat.le_of_eq hok.2.1, nameB_len hok.2.2⟩
          obtain ⟨hek, hkl, hnl⟩ := hoks
          have HEW := Lib.hid (show entW (nm, ek, ex, key) = putText nm ++ [kindW (nm, ek, ex, key)] ++ key from rfl)
          obtain ⟨w5, hw5, hb5, hz5', hzz5⟩ : ∃ w5, w5 = wr.alloc (.cells #[S nm, .int .i64 ek, .bool ex, S key] 82) ∧ Below wr.heap.size wr w5 ∧ w5.heap[wr.heap.size]? = some (.cells #[S nm, .int .i64 ek, .bool ex, S key] 82 (0, 0)) ∧ w5.heap[w.heap.size]? = some (.cells #[.int .i64 kd, S d, .slice a1 n.parts.length c1, .slice (some ⟨b, o, none⟩) n.ents.length c2] 36 (0, 0)) :=
            ⟨_, rfl, (Below.refl _ _).alloc (Nat.le_refl _) _, heap_alloc_new _ _, (((Below.refl _ _).alloc (Nat.le_refl _) _).block _ (heap_lt HZR.out)).trans HZR.out⟩
          have HB5 := Lib.hid (below_chain HB.out hb5 HB.out.size)
          have HZ5 := Lib.hid hzz5
          obtain ⟨kc, hkc⟩ : ∃ kc, kindW (nm, ek, ex, key) = kc := ⟨_, rfl⟩
          rw [hkc] at HEW
          have hkv : (kc.toNat : Int) = if ex = true then ek + 4 else ek := by
            rw [← hkc]; unfold kindW
            rcases hek with rfl | rfl <;> cases ex <;> rfl
          have hek1 : IntKind.u8.wrap ek = ek := by simp only [IntKind.wrap, IntKind.bits, IntKind.signed]; simp; omega
          have hek2 : IntKind.u8.wrap (ek + 4) = ek + 4 := by simp only [IntKind.wrap, IntKind.bits, IntKind.signed]; simp; omega
          have CP := fun w => r01puttext_walk nm w (by omega)
          have hpv := putText_len nm (by omega)
          generalize putText nm = pt at *
          obtain ⟨R, hR⟩ : ∃ R, T ++ pt = R := ⟨_, rfl⟩
          obtain ⟨U, hU⟩ : ∃ U, R ++ [kc] = U := ⟨_, rfl⟩
          obtain ⟨V, hV⟩ : ∃ V, U ++ key = V := ⟨_, rfl⟩
          have hRl : R.length = T.length + pt.length := by rw [← hR, List.length_append]
          have hUl : U.length = R.length + 1 := by rw [← hU, List.length_append]; rfl
          have hcat1 : (⟨T.toArray⟩ : ByteArray) ++ (⟨pt.toArray⟩ : ByteArray) = ⟨R.toArray⟩ := by rw [← hR]; exact ba_cat T pt
          have hcat2 : (⟨R.toArray⟩ : ByteArray) ++ (⟨#[kc]⟩ : ByteArray) = ⟨U.toArray⟩ := by rw [← hU]; exact ba_cat R [kc]
          have hcat3 : (⟨U.toArray⟩ : ByteArray) ++ (⟨key.toArray⟩ : ByteArray) = ⟨V.toArray⟩ := by rw [← hV]; exact ba_cat U key
          have hns1 : ¬ 9223372036854775807 < T.length + pt.length := by omega
          have hns2 : ¬ 9223372036854775807 < R.length + 1 := by omega
          have hns3 : ¬ 9223372036854775807 < U.length + key.length := by omega
          have HV := Lib.hid (show Md ++ (n.ents.take (k + 1)).flatMap entW = V by rw [HST.out, HEW.out, ← hV, ← hU, ← hR, ← hT]; simp)
          obtain ⟨⟨y0, y1, y2, y3⟩, -, -⟩ := box4 hz5'
          have l0 := LaterOf.cell y0
          have l3 := LaterOf.cell y3
          have hcv := run_conv1 1 kc
          clear hT hR hU hV HST HEW hok hRl hUl hkc hz5' hzz5 hek
          go_upto_region 16 with fail
          rw [← hw5]
          clear hw5 hc1 hc2 hc3 hc4 hb5
          cases ex with
          | true =>
            rw [if_pos rfl] at hkv
            go_upto_region 19 with fail
            (refine wp_held (by kernel_rfl) ?_; intro lw)
            (refine wpAnyH_take (i := 0) (v := ?_) rfl (by kernel_rfl) (by kernel_rfl) (by kernel_rfl) (fun _ _ _ h => h) (Or.inl ⟨by rfl, ?_⟩) ⟨_, rfl⟩ ?_; rotate_left; (intro w9 hS9; obtain ⟨p9, hp9⟩ := hS9; subst hp9; go_simp; try with_reducible rfl))
            (refine wpAnyH_take (i := 1) (v := ?_) rfl (by kernel_rfl) (by kernel_rfl) (by kernel_rfl) (fun _ _ _ h => h) (Or.inl ⟨by rfl, ?_⟩) ⟨_, rfl⟩ ?_; rotate_left; (intro w9 hS9; obtain ⟨p9, hp9⟩ := hS9; subst hp9; go_simp; try with_reducible rfl))
            (refine wpAnyH_take (i := 2) (v := ?_) rfl (by kernel_rfl) (by kernel_rfl) (by kernel_rfl) (fun _ _ _ h => h) (Or.inl ⟨by rfl, ?_⟩) ⟨_, rfl⟩ ?_; rotate_left; (intro w9 hS9; obtain ⟨p9, hp9⟩ := hS9; subst hp9; go_simp; try with_reducible rfl))
            (refine wpAnyH_take (i := 5) (v := ?_) rfl (by kernel_rfl) (by kernel_rfl) (by kernel_rfl) (fun _ _ _ h => h) (Or.inl ⟨by rfl, ?_⟩) ⟨_, rfl⟩ ?_; rotate_left; (intro w9 hS9; obtain ⟨p9, hp9⟩ := hS9; subst hp9; go_simp; try with_reducible rfl))
            (refine wpAnyH_take (i := 9) (v := ?_) rfl (by kernel_rfl) (by kernel_rfl) (by kernel_rfl) (fun _ _ _ h => h) (Or.inl ⟨by rfl, ?_⟩) ⟨_, rfl⟩ ?_; rotate_left; (intro w9 hS9; obtain ⟨p9, hp9⟩ := hS9; subst hp9; go_simp; try with_reducible rfl))
            (refine wpAnyH_take (i := 10) (v := ?_) rfl (by kernel_rfl) (by kernel_rfl) (by kernel_rfl) (fun _ _ _ h => h) (Or.inl ⟨by rfl, ?_⟩) ⟨_, rfl⟩ ?_; rotate_left; (intro w9 hS9; obtain ⟨p9, hp9⟩ := hS9; subst hp9; go_simp; try with_reducible rfl))
            refine wpAnyH_two (i := 3) (j := 6) (by kernel_rfl) rfl rfl (fun K hK => ?_) (fun K hK => ?_)
            · go_simp
              refine (CP _).mono ?_
              rintro e wz ⟨rfl, hbz⟩
              skip
              obtain ⟨lz, rfl⟩ : ∃ p : LaterOf w5, wz = p.world := ⟨⟨wz, below_chain lw.below hbz lw.below.size⟩, rfl⟩
              refine hK _ _ ⟨lz, rfl⟩ ?_
              clear hK K hbz
              (refine wpAnyH_take (i := 4) (v := ?_) rfl (by kernel_rfl) (by kernel_rfl) (by kernel_rfl) (fun _ _ _ h => h) (Or.inl ⟨by rfl, ?_⟩) ⟨_, rfl⟩ ?_; rotate_left; (intro w9 hS9; obtain ⟨p9, hp9⟩ := hS9; subst hp9; go_simp; try with_reducible rfl))
              refine wpAnyH_one (i := 6) (by kernel_rfl) rfl (fun K hK => ?_)
              go_simp
              obtain ⟨lb, hlb, hcell⟩ : ∃ p : LaterOf w5, lz.world.alloc (.cells #[.int .u8 (ek + 4)] 5) = p.world ∧ p.world.cell? ⟨lz.world.heap.size, 0, none⟩ = some (.int .u8 (ek + 4)) :=
                ⟨⟨_, lz.below.alloc lz.below.size _⟩, rfl, cell_new _ _ _ _ rfl⟩
              rw [hlb]
              refine hK _ _ ⟨lb, rfl⟩ ?_
              clear hK K hlb
              (refine wpAnyH_one (i := 7) (by kernel_rfl) rfl (fun K hK => ?_); go_simp; refine hK _ _ ⟨_, rfl⟩ ?_; clear hK K)
              (refine wpAnyH_one (i := 8) (by kernel_rfl) rfl (fun K hK => ?_); go_simp; refine hK _ _ ⟨_, rfl⟩ ?_; clear hK K)
              (refine wpAnyH_one (i := 11) (by kernel_rfl) rfl (fun K hK => ?_); go_simp; refine hK _ _ ⟨_, rfl⟩ ?_; clear hK K)
              (refine wpAnyH_one (i := 12) (by kernel_rfl) rfl (fun K hK => ?_); go_simp; refine hK _ _ ⟨_, rfl⟩ ?_; clear hK K)
              (refine wpAnyH_done (by kernel_rfl) ?_ _)
              go_wp2
              go_roundw
              case rel => exact ⟨k + 1, by omega, by go_num, by rw [HV.out], (lb.below.block _ (heap_lt HZ5.out)).trans HZ5.out, below_chain HB5.out lb.below HB5.out.size⟩
              case measure => simp [intOf]; omega
            · go_simp
              obtain ⟨lb, hlb, hcell⟩ : ∃ p : LaterOf w5, lw.world.alloc (.cells #[.int .u8 (ek + 4)] 5) = p.world ∧ p.world.cell? ⟨lw.world.heap.size, 0, none⟩ = some (.int .u8 (ek + 4)) :=
                ⟨⟨_, lw.below.alloc lw.below.size _⟩, rfl, cell_new _ _ _ _ rfl⟩
              rw [hlb]
              refine hK _ _ ⟨lb, rfl⟩ ?_
              clear hK K hlb
              refine wpAnyH_two (i := 3) (j := 7) (by kernel_rfl) rfl rfl (fun K hK => ?_) (fun K hK => ?_)
              · go_simp
                refine (CP _).mono ?_
                rintro e wz ⟨rfl, hbz⟩
                replace hcell := cell_below hbz hcell
                obtain ⟨lz, rfl⟩ : ∃ p : LaterOf w5, wz = p.world := ⟨⟨wz, below_chain lb.below hbz lb.below.size⟩, rfl⟩
                refine hK _ _ ⟨lz, rfl⟩ ?_
                clear hK K hbz
                (refine wpAnyH_take (i := 4) (v := ?_) rfl (by kernel_rfl) (by kernel_rfl) (by kernel_rfl) (fun _ _ _ h => h) (Or.inl ⟨by rfl, ?_⟩) ⟨_, rfl⟩ ?_; rotate_left; (intro w9 hS9; obtain ⟨p9, hp9⟩ := hS9; subst hp9; go_simp; try with_reducible rfl))
                (refine wpAnyH_one (i := 7) (by kernel_rfl) rfl (fun K hK => ?_); go_simp; refine hK _ _ ⟨_, rfl⟩ ?_; clear hK K)
                (refine wpAnyH_one (i := 8) (by kernel_rfl) rfl (fun K hK => ?_); go_simp; refine hK _ _ ⟨_, rfl⟩ ?_; clear hK K)
                (refine wpAnyH_one (i := 11) (by kernel_rfl) rfl (fun K hK => ?_); go_simp; refine hK _ _ ⟨_, rfl⟩ ?_; clear hK K)
                (refine wpAnyH_one (i := 12) (by kernel_rfl) rfl (fun K hK => ?_); go_simp; refine hK _ _ ⟨_, rfl⟩ ?_; clear hK K)
                (refine wpAnyH_done (by kernel_rfl) ?_ _)
                go_wp2
                go_roundw
                case rel => exact ⟨k + 1, by omega, by go_num, by rw [HV.out], (lz.below.block _ (heap_lt HZ5.out)).trans HZ5.out, below_chain HB5.out lz.below HB5.out.size⟩
                case measure => simp [intOf]; omega
              · go_simp
                refine hK _ _ ⟨lb, rfl⟩ ?_
                clear hK K
                refine wpAnyH_one (i := 3) (by kernel_rfl) rfl (fun K hK => ?_)
                go_simp
                refine (CP _).mono ?_
                rintro e wz ⟨rfl, hbz⟩
                skip
                obtain ⟨lz, rfl⟩ : ∃ p : LaterOf w5, wz = p.world := ⟨⟨wz, below_chain lb.below hbz lb.below.size⟩, rfl⟩
                refine hK _ _ ⟨lz, rfl⟩ ?_
                clear hK K hbz
                (refine wpAnyH_take (i := 4) (v := ?_) rfl (by kernel_rfl) (by kernel_rfl) (by kernel_rfl) (fun _ _ _ h => h) (Or.inl ⟨by rfl, ?_⟩) ⟨_, rfl⟩ ?_; rotate_left; (intro w9 hS9; obtain ⟨p9, hp9⟩ := hS9; subst hp9; go_simp; try with_reducible rfl))
                (refine wpAnyH_one (i := 8) (by kernel_rfl) rfl (fun K hK => ?_); go_simp; refine hK _ _ ⟨_, rfl⟩ ?_; clear hK K)
                (refine wpAnyH_one (i := 11) (by kernel_rfl) rfl (fun K hK => ?_); go_simp; refine hK _ _ ⟨_, rfl⟩ ?_; clear hK K)
                (refine wpAnyH_one (i := 12) (by kernel_rfl) rfl (fun K hK => ?_); go_simp; refine hK _ _ ⟨_, rfl⟩ ?_; clear hK K)
                (refine wpAnyH_done (by kernel_rfl) ?_ _)
                go_wp2
                go_roundw
                case rel => exact ⟨k + 1, by omega, by go_num, by rw [HV.out], (lz.below.block _ (heap_lt HZ5.out)).trans HZ5.out, below_chain HB5.out lz.below HB5.out.size⟩
                case measure => simp [intOf]; omega
          | false =>
            rw [if_neg (by simp)] at hkv
            go_upto_region 19 with fail
            (refine wp_held (by kernel_rfl) ?_; intro lw)
            (refine wpAnyH_take (i := 0) (v := ?_) rfl (by kernel_rfl) (by kernel_rfl) (by kernel_rfl) (fun _ _ _ h => h) (Or.inl ⟨by rfl, ?_⟩) ⟨_, rfl⟩ ?_; rotate_left; (intro w9 hS9; obtain ⟨p9, hp9⟩ := hS9; subst hp9; go_simp; try with_reducible rfl))
            (refine wpAnyH_take (i := 1) (v := ?_) rfl (by kernel_rfl) (by kernel_rfl) (by kernel_rfl) (fun _ _ _ h => h) (Or.inl ⟨by rfl, ?_⟩) ⟨_, rfl⟩ ?_; rotate_left; (intro w9 hS9; obtain ⟨p9, hp9⟩ := hS9; subst hp9; go_simp; try with_reducible rfl))
            (refine wpAnyH_take (i := 2) (v := ?_) rfl (by kernel_rfl) (by kernel_rfl) (by kernel_rfl) (fun _ _ _ h => h) (Or.inl ⟨by rfl, ?_⟩) ⟨_, rfl⟩ ?_; rotate_left; (intro w9 hS9; obtain ⟨p9, hp9⟩ := hS9; subst hp9; go_simp; try with_reducible rfl))
            (refine wpAnyH_take (i := 5) (v := ?_) rfl (by kernel_rfl) (by kernel_rfl) (by kernel_rfl) (fun _ _ _ h => h) (Or.inl ⟨by rfl, ?_⟩) ⟨_, rfl⟩ ?_; rotate_left; (intro w9 hS9; obtain ⟨p9, hp9⟩ := hS9; subst hp9; go_simp; try with_reducible rfl))
            (refine wpAnyH_take (i := 9) (v := ?_) rfl (by kernel_rfl) (by kernel_rfl) (by kernel_rfl) (fun _ _ _ h => h) (Or.inl ⟨by rfl, ?_⟩) ⟨_, rfl⟩ ?_; rotate_left; (intro w9 hS9; obtain ⟨p9, hp9⟩ := hS9; subst hp9; go_simp; try with_reducible rfl))
            (refine wpAnyH_take (i := 10) (v := ?_) rfl (by kernel_rfl) (by kernel_rfl) (by kernel_rfl) (fun _ _ _ h => h) (Or.inl ⟨by rfl, ?_⟩) ⟨_, rfl⟩ ?_; rotate_left; (intro w9 hS9; obtain ⟨p9, hp9⟩ := hS9; subst hp9; go_simp; try with_reducible rfl))
            refine wpAnyH_two (i := 3) (j := 6) (by kernel_rfl) rfl rfl (fun K hK => ?_) (fun K hK => ?_)
            · go_simp
              refine (CP _).mono ?_
              rintro e wz ⟨rfl, hbz⟩
              skip
              obtain ⟨lz, rfl⟩ : ∃ p : LaterOf w5, wz = p.world := ⟨⟨wz, below_chain lw.below hbz lw.below.size⟩, rfl⟩
              refine hK _ _ ⟨lz, rfl⟩ ?_
              clear hK K hbz
              (refine wpAnyH_take (i := 4) (v := ?_) rfl (by kernel_rfl) (by kernel_rfl) (by kernel_rfl) (fun _ _ _ h => h) (Or.inl ⟨by rfl, ?_⟩) ⟨_, rfl⟩ ?_; rotate_left; (intro w9 hS9; obtain ⟨p9, hp9⟩ := hS9; subst hp9; go_simp; try with_reducible rfl))
              refine wpAnyH_one (i := 6) (by kernel_rfl) rfl (fun K hK => ?_)
              go_simp
              obtain ⟨lb, hlb, hcell⟩ : ∃ p : LaterOf w5, lz.world.alloc (.cells #[.int .u8 ek] 5) = p.world ∧ p.world.cell? ⟨lz.world.heap.size, 0, none⟩ = some (.int .u8 ek) :=
                ⟨⟨_, lz.below.alloc lz.below.size _⟩, rfl, cell_new _ _ _ _ rfl⟩
              rw [hlb]
              refine hK _ _ ⟨lb, rfl⟩ ?_
              clear hK K hlb
              (refine wpAnyH_one (i := 7) (by kernel_rfl) rfl (fun K hK => ?_); go_simp; refine hK _ _ ⟨_, rfl⟩ ?_; clear hK K)
              (refine wpAnyH_one (i := 8) (by kernel_rfl) rfl (fun K hK => ?_); go_simp; refine hK _ _ ⟨_, rfl⟩ ?_; clear hK K)
              (refine wpAnyH_one (i := 11) (by kernel_rfl) rfl (fun K hK => ?_); go_simp; refine hK _ _ ⟨_, rfl⟩ ?_; clear hK K)
              (refine wpAnyH_one (i := 12) (by kernel_rfl) rfl (fun K hK => ?_); go_simp; refine hK _ _ ⟨_, rfl⟩ ?_; clear hK K)
              (refine wpAnyH_done (by kernel_rfl) ?_ _)
              go_wp2
              go_roundw
              case rel => exact ⟨k + 1, by omega, by go_num, by rw [HV.out], (lb.below.block _ (heap_lt HZ5.out)).trans HZ5.out, below_chain HB5.out lb.below HB5.out.size⟩
              case measure => simp [intOf]; omega
            · go_simp
              obtain ⟨lb, hlb, hcell⟩ : ∃ p : LaterOf w5, lw.world.alloc (.cells #[.int .u8 ek] 5) = p.world ∧ p.world.cell? ⟨lw.world.heap.size, 0, none⟩ = some (.int .u8 ek) :=
                ⟨⟨_, lw.below.alloc lw.below.size _⟩, rfl, cell_new _ _ _ _ rfl⟩
              rw [hlb]
              refine hK _ _ ⟨lb, rfl⟩ ?_
              clear hK K hlb
              refine wpAnyH_two (i := 3) (j := 7) (by kernel_rfl) rfl rfl (fun K hK => ?_) (fun K hK => ?_)
              · go_simp
                refine (CP _).mono ?_
                rintro e wz ⟨rfl, hbz⟩
                replace hcell := cell_below hbz hcell
                obtain ⟨lz, rfl⟩ : ∃ p : LaterOf w5, wz = p.world := ⟨⟨wz, below_chain lb.below hbz lb.below.size⟩, rfl⟩
                refine hK _ _ ⟨lz, rfl⟩ ?_
                clear hK K hbz
                (refine wpAnyH_take (i := 4) (v := ?_) rfl (by kernel_rfl) (by kernel_rfl) (by kernel_rfl) (fun _ _ _ h => h) (Or.inl ⟨by rfl, ?_⟩) ⟨_, rfl⟩ ?_; rotate_left; (intro w9 hS9; obtain ⟨p9, hp9⟩ := hS9; subst hp9; go_simp; try with_reducible rfl))
                (refine wpAnyH_one (i := 7) (by kernel_rfl) rfl (fun K hK => ?_); go_simp; refine hK _ _ ⟨_, rfl⟩ ?_; clear hK K)
                (refine wpAnyH_one (i := 8) (by kernel_rfl) rfl (fun K hK => ?_); go_simp; refine hK _ _ ⟨_, rfl⟩ ?_; clear hK K)
                (refine wpAnyH_one (i := 11) (by kernel_rfl) rfl (fun K hK => ?_); go_simp; refine hK _ _ ⟨_, rfl⟩ ?_; clear hK K)
                (refine wpAnyH_one (i := 12) (by kernel_rfl) rfl (fun K hK => ?_); go_simp; refine hK _ _ ⟨_, rfl⟩ ?_; clear hK K)
                (refine wpAnyH_done (by kernel_rfl) ?_ _)
                go_wp2
                go_roundw
                case rel => exact ⟨k + 1, by omega, by go_num, by rw [HV.out], (lz.below.block _ (heap_lt HZ5.out)).trans HZ5.out, below_chain HB5.out lz.below HB5.out.size⟩
                case measure => simp [intOf]; omega
              · go_simp
                refine hK _ _ ⟨lb, rfl⟩ ?_
                clear hK K
                refine wpAnyH_one (i := 3) (by kernel_rfl) rfl (fun K hK => ?_)
                go_simp
                refine (CP _).mono ?_
                rintro e wz ⟨rfl, hbz⟩
                skip
                obtain ⟨lz, rfl⟩ : ∃ p : LaterOf w5, wz = p.world := ⟨⟨wz, below_chain lb.below hbz lb.below.size⟩, rfl⟩
                refine hK _ _ ⟨lz, rfl⟩ ?_
                clear hK K hbz
                (refine wpAnyH_take (i := 4) (v := ?_) rfl (by kernel_rfl) (by kernel_rfl) (by kernel_rfl) (fun _ _ _ h => h) (Or.inl ⟨by rfl, ?_⟩) ⟨_, rfl⟩ ?_; rotate_left; (intro w9 hS9; obtain ⟨p9, hp9⟩ := hS9; subst hp9; go_simp; try with_reducible rfl))
                (refine wpAnyH_one (i := 8) (by kernel_rfl) rfl (fun K hK => ?_); go_simp; refine hK _ _ ⟨_, rfl⟩ ?_; clear hK K)
                (refine wpAnyH_one (i := 11) (by kernel_rfl) rfl (fun K hK => ?_); go_simp; refine hK _ _ ⟨_, rfl⟩ ?_; clear hK K)
                (refine wpAnyH_one (i := 12) (by kernel_rfl) rfl (fun K hK => ?_); go_simp; refine hK _ _ ⟨_, rfl⟩ ?_; clear hK K)
                (refine wpAnyH_done (by kernel_rfl) ?_ _)
                go_wp2
                go_roundw
                case rel => exact ⟨k + 1, by omega, by go_num, by rw [HV.out], (lz.below.block _ (heap_lt HZ5.out)).trans HZ5.out, below_chain HB5.out lz.below HB5.out.size⟩
                case measure => simp [intOf]; omega
        · have h1' : ¬ (k : Int) < (n.ents.length : Int) := by omega
          obtain rfl : k = n.ents.length := by omega
          rw [List.take_of_length_le (Nat.le_refl _)] at hfl ⊢
          have HF := Lib.hid HWN.out
          generalize hT : Md ++ n.ents.flatMap entW = T at *
          go_wp2
          go_ret
          exact ⟨by rw [HF.out]; rfl, HB.out⟩
end Go.Proofs.YtaompdnnkfmjhaaGreatDoor
