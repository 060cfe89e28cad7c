/- The reference's bytes of a node. Sums of 32 bytes, in plain Lean. -/
import Derived.Test.YtaompdnnkfmjhaaGreatDoorJNodePlain
import Derived.Test.YtaompdnnkfmjhaaGreatDoorJR11
import Derived.Test.YtaompdnnkfmjhaaGreatDoorJCPlus
import Derived.Test.YtaompdnnkfmjhaaGreatDoorJPFit11
import Derived.Test.YtaompdnnkfmjhaaGreatDoorJAny
import Derived.Test.YtaompdnnkfmjhaaGreatDoorJPlain
import Derived.Laws.BitsAllLaws
namespace Go.Proofs.YtaompdnnkfmjhaaGreatDoor
open Go.RowKit

def headW (n : Nod) : List UInt8 := UInt8.ofNat n.kind.toNat :: n.data ++ (if n.kind = 2 then putV n.parts.length else [])
def midW (n : Nod) : List UInt8 := headW n ++ n.parts.flatMap partW ++ (if n.kind = 3 then putV n.ents.length else [])
theorem writeN_parts {n : Nod} (hf : FitN n) : writeN n = midW n ++ n.ents.flatMap entW := by
  unfold writeN
  rw [if_pos (fitN_iff.2 hf)]
  obtain ⟨k, d, ps, es⟩ := n
  unfold midW headW bodyN
  rcases hf with ⟨h1, h2, h3, h4, h5⟩ | ⟨h1, h2, h3, h4⟩ | ⟨h1, h2, h3, h4⟩
  · simp only at h1 h4 h5; subst h1 h4 h5; simp
  · simp only at h1 h2 h3; subst h1 h2 h3; simp
  · simp only at h1 h2 h3; subst h1 h2 h3; simp
theorem partW_len {p : Prt} (h : partOk p = true) : (partW p).length ≤ 42 := by
  unfold partOk at h
  simp only [Bool.and_eq_true, beq_iff_eq, decide_eq_true_eq] at h
  have := putV_len (n := p.2.toNat) (by omega)
  unfold partW
  rw [List.length_append]; omega
theorem putText_len (t : List UInt8) (h : t.length < 18446744073709551616) : (putText t).length ≤ 10 + t.length := by
  unfold putText
  split
  · simp
  · have := putV_len (n := t.length) (by omega)
    rw [List.length_append]; omega
theorem entW_len {e : Ent} (h : entOk e = true) : (entW e).length ≤ 74 := by
  unfold entOk at h
  simp only [Bool.and_eq_true, beq_iff_eq] at h
  have h1 := nameB_len h.2.2
  have h2 := putText_len e.1 (by omega)
  unfold entW
  simp only [List.length_append, List.length_cons, List.length_nil]
  omega
theorem flat_bound {α : Type} {f : α → List UInt8} {B : Nat} : ∀ {l : List α}, (∀ x ∈ l, (f x).length ≤ B) → (l.flatMap f).length ≤ B * l.length
  | [], _ => by simp
  | x :: l, h => by
    have h1 := h x List.mem_cons_self
    have h2 := flat_bound (l := l) (fun y hy => h y (List.mem_cons_of_mem _ hy))
    rw [List.flatMap_cons, List.length_append, List.length_cons, Nat.mul_succ]
    omega
theorem headW_len {n : Nod} (hf : FitN n) : (headW n).length ≤ 4200 := by
  unfold headW
  rw [List.length_append, List.length_cons]
  rcases hf with ⟨h1, h2, h3, h4, h5⟩ | ⟨h1, h2, h3, h4⟩ | ⟨h1, h2, h3, h4⟩
  · rw [if_neg (by omega)]; simp; omega
  · rw [if_pos h1, h2]
    have := putV_len (n := n.parts.length) (by have := h4.len; omega)
    simp; omega
  · rw [if_neg (by omega), h2]; simp
theorem flat_step {α : Type} {f : α → List UInt8} {l : List α} {k : Nat} (h : k < l.length) : (l.take (k + 1)).flatMap f = (l.take k).flatMap f ++ f l[k] := by
  rw [List.take_succ_eq_append_getElem h, List.flatMap_append]; simp
theorem flat_take_len {α : Type} {f : α → List UInt8} {B : Nat} {l : List α} (h : ∀ x ∈ l, (f x).length ≤ B) {k : Nat} (hk : k ≤ l.length) : ((l.take k).flatMap f).length ≤ B * k := by
  have := flat_bound (f := f) (B := B) (l := l.take k) (fun x hx => h x (List.mem_of_mem_take hx))
  rwa [List.length_take, Nat.min_eq_left hk] at this

theorem run_conv1 (c : Nat) (b : UInt8) (W : World) (g : Nat) (h : W.cell? ⟨g, 0, none⟩ = some (.int .u8 (b.toNat : Int))) : (convert 113 9 (.slice (some ⟨g, 0, none⟩) 1 c)).run Tryz.prog W = .ok (.string ⟨#[b]⟩) W := by
  refine run_convert_bytes_back W _ _ 5 _ _ [b] Tryz.underlying113 Tryz.underlying5 Tryz.underlying9 fun j hj => ?_
  obtain rfl : j = 0 := by simp at hj; omega
  simpa [Addr.add] using h

set_option maxHeartbeats 8000000 in
set_option maxRecDepth 100000 in
theorem rwrite11_walk (vp ve : Value) (n : Nod) (w : World) (hr : NodRow w n vp ve) (hd : n.data.length ≤ 1100000) (hp : n.parts.length ≤ 1100000) (he : n.ents.length ≤ 1100000) (hnl : ∀ e ∈ n.ents, e.1.length ≤ 1100000) :
    Calls Tryz.prog 39 #[NodV n vp ve] w fun e w' => e = .returned (S (writeN n)) ∧ Below w.heap.size w w' := by
  obtain ⟨kd, hkd⟩ : ∃ kd, n.kind = kd := ⟨_, rfl⟩
  obtain ⟨d, hd'⟩ : ∃ d, n.data = d := ⟨_, rfl⟩
  obtain ⟨w1, hw1, hB1, hz⟩ : ∃ w1, w1 = w.alloc (.cells #[.int .i64 kd, S d, vp, ve] 36) ∧ Below w.heap.size w w1 ∧ w1.heap[w.heap.size]? = some (.cells #[.int .i64 kd, S d, vp, ve] 36 (0, 0)) :=
    ⟨_, rfl, (Below.refl _ _).alloc (Nat.le_refl _) _, heap_alloc_new _ _⟩
  have hr1 := hr.below hB1
  have CF := rfit11_walk vp ve n w1 hr1 hd hp he hnl
  have HW := Lib.hid (fun h : FitN n => writeN_parts h)
  have HW0 := Lib.hid (fun h : fitN n = false => (show writeN n = [] by unfold writeN; rw [h]; rfl))
  have HFT := Lib.hid (fun h : fitN n = true => fitN_iff.1 h)
  have HR1 := Lib.hid hr1
  have HR := Lib.hid hr
  have HHD := Lib.hid (show headW n = UInt8.ofNat kd.toNat :: d ++ (if kd = 2 then putV n.parts.length else []) by rw [← hkd, ← hd']; rfl)
  have HMD := Lib.hid (show midW n = headW n ++ n.parts.flatMap partW ++ (if kd = 3 then putV n.ents.length else []) by rw [← hkd]; rfl)
  have HKD := Lib.hid hkd
  have HDD := Lib.hid hd'
  unfold NodV
  rw [hkd, hd']
  unfold NodV at CF
  rw [hkd, hd'] at CF
  generalize writeN n = wn at *
  obtain ⟨⟨z0, z1, z2, z3⟩, -, -⟩ := box4 hz
  clear hr hr1 hnl hkd hd'
  go_enter Tryz.func39, Tryz.ntmps39
  go_upto_region 1 with fail
  rw [← hw1]
  clear hw1
  cases hfb : fitN n with
  | false =>
    rw [hfb] at CF
    have HF := Lib.hid (HW0.out hfb)
    clear hfb
    go_wp2_with (go_at_call 38; refine (CF).mono ?_; rintro e w2 ⟨rfl, hb2⟩)
    go_ret
    exact ⟨by rw [HF.out]; rfl, below_chain hB1 hb2 hB1.size⟩
  | true =>
  rw [hfb] at CF
  have hft := HFT.out hfb
  obtain ⟨s1, s2, s3, s4, s5, s6, s7⟩ := fit_sizes hft
  rw [HKD.out] at s6 s7
  rw [HDD.out] at s3
  have hhl := headW_len hft
  have HWN := Lib.hid (HW.out hft)
  have hpl : ∀ p ∈ n.parts, (partW p).length ≤ 42 := fun p h => partW_len (s4 p h)
  have hel : ∀ e ∈ n.ents, (entW e).length ≤ 74 := fun e h => entW_len (s5 e h)
  have HS4 := Lib.hid s4
  have HS5 := Lib.hid s5
  have HPL := Lib.hid hpl
  have HEL := Lib.hid hel
  clear hfb hft HW HW0 HFT s4 s5 hpl hel
  go_wp2_with fail
  refine CF.mono ?_
  rintro e w2 ⟨rfl, hb2⟩
  clear CF
  have hz2 := (hb2.block _ (heap_lt hz)).trans hz
  have hB2 := below_chain hB1 hb2 hB1.size
  have hr2 := HR1.out.below hb2
  clear hz hB1 HR1 hb2 z0 z1 z2 z3
  obtain ⟨kb, hkb⟩ : ∃ kb, UInt8.ofNat kd.toNat = kb := ⟨_, rfl⟩
  have hkw : IntKind.u8.wrap kd = (kb.toNat : Nat) := by
    rw [← hkb, UInt8.toNat_ofNat']
    simp only [IntKind.wrap, IntKind.bits, IntKind.signed]; simp; omega
  have hcv := run_conv1 1 kb
  obtain ⟨D0, hD0⟩ : ∃ D, kb :: d = D := ⟨_, rfl⟩
  have hcat0 : (⟨#[kb]⟩ : ByteArray) ++ (⟨d.toArray⟩ : ByteArray) = ⟨D0.toArray⟩ := by rw [← hD0]; exact ba_cat [kb] d
  have hD0l : D0.length ≤ 4097 := by rw [← hD0, List.length_cons]; omega
  have hns0 : ¬ 9223372036854775807 < 1 + d.length := by omega
  have HHD2 := Lib.hid (show headW n = D0 ++ (if kd = 2 then putV n.parts.length else []) by rw [HHD.out, hkb, ← hD0])
  obtain ⟨⟨z0, z1, z2, z3⟩, -, -⟩ := box4 hz2
  have z0a := fun o => cell_old z0 o
  have z1a := fun o => cell_old z1 o
  obtain ⟨w3, hw3, hz3, hB3, hr3⟩ : ∃ w3, w3 = w2.alloc (.cells #[.int .u8 ((kb.toNat : Nat) : Int)] 5) ∧ w3.heap[w.heap.size]? = some (.cells #[.int .i64 kd, S d, vp, ve] 36 (0, 0)) ∧ Below w.heap.size w w3 ∧ NodRow w3 n vp ve :=
    ⟨_, rfl, (((Below.refl _ _).alloc (Nat.le_refl _) _).block _ (heap_lt hz2)).trans hz2, hB2.alloc hB2.size _, hr2.below ((Below.refl _ _).alloc (Nat.le_refl _) _)⟩
  clear hkb hD0 HHD
  go_upto_if 21 with fail
  rw [← hw3]
  clear hw3 z0a z1a z0 z1 z2 z3 hz2 hB2 hr2 hcat0 hcv
  obtain ⟨a1, c1, rfl⟩ := row_slice hr3.parts
  obtain ⟨a2, c2, rfl⟩ := row_slice hr3.ents
  clear hr3
  generalize headW n = Hd at *
  generalize midW n = Md at *
  go_cut [3] from 21 (fun v wc => v = S Hd ∧ wc.heap[w.heap.size]? = some (.cells #[.int .i64 kd, S d, .slice a1 n.parts.length c1, .slice a2 n.ents.length c2] 36 (0, 0)) ∧ Below w.heap.size w wc)
  case first =>
    obtain ⟨⟨z0, z1, z2, z3⟩, -, -⟩ := box4 hz3
    by_cases k2 : kd = 2
    · have k2' : (kd == 2) = true := by rw [beq_iff_eq]; exact k2
      have hlw : IntKind.u64.wrap (n.parts.length : Int) = (n.parts.length : Int) := by simp only [IntKind.wrap, IntKind.bits, IntKind.signed]; simp; omega
      have CP := r01put_walk n.parts.length w3 (by omega)
      have hpv := putV_len (n := n.parts.length) (by omega)
      have hh := HHD2.out
      rw [if_pos k2] at hh
      generalize putV n.parts.length = pv at *
      have hcat1 : (⟨D0.toArray⟩ : ByteArray) ++ (⟨pv.toArray⟩ : ByteArray) = ⟨Hd.toArray⟩ := by rw [hh]; exact ba_cat D0 pv
      have hns1 : ¬ 9223372036854775807 < D0.length + pv.length := by omega
      clear k2 hh
      go_wp2_with fail
      refine CP.mono ?_
      rintro e w4 ⟨rfl, hb4⟩
      go_wp2
      go_meet
      case rel => exact ⟨rfl, (hb4.block _ (heap_lt hz3)).trans hz3, below_chain hB3 hb4 hB3.size⟩
    · have k2' : (kd == 2) = false := by rw [beq_eq_false_iff_ne]; exact k2
      have hh := Lib.hid (show Hd = D0 by rw [HHD2.out, if_neg k2, List.append_nil])
      clear k2
      go_wp2
      go_meet
      case rel => exact ⟨by rw [hh.out], hz3, hB3⟩
  case rest =>
  obtain ⟨rfl, hz4, hB4⟩ := hcut
  clear hz3 hB3 HHD2 hD0l hns0 hkw
  go_wp2
  go_loopw [3, 4] (fun v i wr => ∃ k : Nat, k ≤ n.parts.length ∧ i = .int .i64 k ∧ v = S (Hd ++ (n.parts.take k).flatMap partW) ∧ wr.heap[w.heap.size]? = some (.cells #[.int .i64 kd, S d, .slice a1 n.parts.length c1, .slice a2 n.ents.length c2] 36 (0, 0)) ∧ Below w.heap.size w wr) (fun _ i _ => n.parts.length - (intOf i).toNat)
  case atStart => exact ⟨0, Nat.zero_le _, rfl, by simp, hz4, hB4⟩
  case round =>
    obtain ⟨k, hk, rfl, rfl, hzr, hB⟩ := hrel
    have HB := Lib.hid hB
    have HZR := Lib.hid hzr
    obtain ⟨⟨z0, z1, z2, z3⟩, -, -⟩ := box4 hzr
    have hfl := flat_take_len HPL.out hk
    by_cases h1 : k < n.parts.length
    · have h1' : (k : Int) < (n.parts.length : Int) := by omega
      obtain ⟨a, c, hv, -, -, hx⟩ := HR.out.parts
      cases hv
      rcases hx with hx | ⟨b, o, rfl, hx⟩
      · exfalso; rw [hx] at h1; simp at h1
      obtain ⟨hc1, hc2⟩ := prt_cells hx h1
      have l1 := LaterOf.cell (cell_below hB hc1)
      have l2 := LaterOf.cell (cell_below hB hc2)
      have l3 := LaterOf.cell z2
      have HST := Lib.hid (flat_step (f := partW) h1)
      have hok := HS4.out _ (List.getElem_mem h1)
      clear hx hc1 hc2 z0 z1 z3 hzr hB
      generalize hT : Hd ++ (n.parts.take k).flatMap partW = T at *
      have hTl : T.length ≤ 4200 + 42 * 1024 := by rw [← hT, List.length_append]; omega
      generalize n.parts[k] = y at *
      obtain ⟨key, sz⟩ := y
      unfold partOk at hok
      simp only [Bool.and_eq_true, beq_iff_eq, decide_eq_true_eq] at hok l1 l2 HST
      obtain ⟨N, rfl⟩ : ∃ N : Nat, sz = (N : Int) := ⟨sz.toNat, by omega⟩
      have CP := fun w => r01put_walk N w (by omega)
      have hpv := putV_len (n := N) (by omega)
      have HST2 := Lib.hid (show (n.parts.take (k + 1)).flatMap partW = (n.parts.take k).flatMap partW ++ (key ++ putV N) by rw [HST.out]; rfl)
      generalize putV N = pv at *
      obtain ⟨R, hR⟩ : ∃ R, T ++ key = R := ⟨_, rfl⟩
      obtain ⟨U, hU⟩ : ∃ U, R ++ pv = U := ⟨_, rfl⟩
      have hRl : R.length = T.length + key.length := by rw [← hR, List.length_append]
      have hcat1 : (⟨T.toArray⟩ : ByteArray) ++ (⟨key.toArray⟩ : ByteArray) = ⟨R.toArray⟩ := by rw [← hR]; exact ba_cat T key
      have hcat2 : (⟨R.toArray⟩ : ByteArray) ++ (⟨pv.toArray⟩ : ByteArray) = ⟨U.toArray⟩ := by rw [← hU]; exact ba_cat R pv
      have hns1 : ¬ 9223372036854775807 < T.length + key.length := by omega
      have hns2 : ¬ 9223372036854775807 < R.length + pv.length := by omega
      have hlw : IntKind.u64.wrap (N : Int) = (N : Int) := by simp only [IntKind.wrap, IntKind.bits, IntKind.signed]; simp; omega
      have HU := Lib.hid (show Hd ++ (n.parts.take (k + 1)).flatMap partW = U by rw [HST2.out, ← hU, ← hR, ← hT]; simp)
      clear hT hR hU HST HST2 hok hRl
      go_wp2
      (refine wp_region_later (by kernel_rfl) (by kernel_rfl) ?_; (repeat (go_big_quiet_step ((go_at_call 64; exact LaterOf.call _ (CP _))))); refine wpQuiet_nil ?_; intro _ hw1; obtain ⟨lw, hw2⟩ := hw1; subst hw2)
      go_wp2
      go_roundw
      case rel => exact ⟨k + 1, by omega, by go_num, by rw [HU.out], (lw.below.block _ (heap_lt HZR.out)).trans HZR.out, below_chain HB.out lw.below HB.out.size⟩
      case measure => simp [intOf]; omega
    · have h1' : ¬ (k : Int) < (n.parts.length : Int) := by omega
      obtain rfl : k = n.parts.length := by omega
      rw [List.take_of_length_le (Nat.le_refl _)] at hfl ⊢
      generalize hT : Hd ++ n.parts.flatMap partW = T at *
      have hTl : T.length ≤ 4200 + 42 * 1024 := by rw [← hT, List.length_append]; omega
      go_upto_if 55 with fail
      go_cut [3] from 55 (fun v wc => v = S Md ∧ wc.heap[w.heap.size]? = some (.cells #[.int .i64 kd, S d, .slice a1 n.parts.length c1, .slice a2 n.ents.length c2] 36 (0, 0)) ∧ Below w.heap.size w wc ∧ Md.length ≤ 60000)
      case first =>
        by_cases k3 : kd = 3
        · have k3' : (kd == 3) = true := by rw [beq_iff_eq]; exact k3
          have hlw : IntKind.u64.wrap (n.ents.length : Int) = (n.ents.length : Int) := by simp only [IntKind.wrap, IntKind.bits, IntKind.signed]; simp; omega
          have CP := r01put_walk n.ents.length wr (by omega)
          have hpv := putV_len (n := n.ents.length) (by omega)
          have hh := HMD.out
          rw [if_pos k3] at hh
          generalize putV n.ents.length = pv at *
          have hcat1 : (⟨T.toArray⟩ : ByteArray) ++ (⟨pv.toArray⟩ : ByteArray) = ⟨Md.toArray⟩ := by rw [hh]; exact ba_cat T pv
          have hns1 : ¬ 9223372036854775807 < T.length + pv.length := by omega
          have hml : Md.length ≤ 60000 := by rw [hh, List.length_append]; omega
          clear k3 hh
          go_wp2_with fail
          refine CP.mono ?_
          rintro e w4 ⟨rfl, hb4⟩
          go_wp2
          go_meet
          case rel => exact ⟨rfl, (hb4.block _ (heap_lt HZR.out)).trans HZR.out, below_chain HB.out hb4 HB.out.size, hml⟩
        · have k3' : (kd == 3) = false := by rw [beq_eq_false_iff_ne]; exact k3
          have hh : Md = T := by rw [HMD.out, if_neg k3, List.append_nil]
          have HH := Lib.hid hh
          clear k3 hh
          go_wp2
          go_meet
          case rel => exact ⟨by rw [HH.out], HZR.out, HB.out, by rw [HH.out]; omega⟩
      case rest =>
      obtain ⟨rfl, hz5, hB5, hml⟩ := hcut
      clear HZR HB hT hTl z0 z1 z2 z3 hzr hB hfl
      go_wp2
      go_loopw [3, 5] (fun v i wr => ∃ k : Nat, k ≤ n.ents.length ∧ i = .int .i64 k ∧ v = S (Md ++ (n.ents.take k).flatMap entW) ∧ wr.heap[w.heap.size]? = some (.cells #[.int .i64 kd, S d, .slice a1 n.parts.length c1, .slice a2 n.ents.length c2] 36 (0, 0)) ∧ Below w.heap.size w wr) (fun _ i _ => n.ents.length - (intOf i).toNat)
      case atStart => exact ⟨0, Nat.zero_le _, rfl, by simp, hz5, hB5⟩
      case round =>
        obtain ⟨k, hk, rfl, rfl, hzr, hB⟩ := hrel
        have HB := Lib.hid hB
        have HZR := Lib.hid hzr
        obtain ⟨⟨z0, z1, z2, z3⟩, -, -⟩ := box4 hzr
        have hfl := flat_take_len HEL.out hk
        by_cases h1 : k < n.ents.length
        · have h1' : (k : Int) < (n.ents.length : Int) := by omega
          obtain ⟨a, c, hv, -, -, hx⟩ := HR.out.ents
          obtain ⟨g1, g2⟩ : a2 = a ∧ c2 = c := by cases hv; exact ⟨rfl, rfl⟩
          subst g1 g2
          clear hv
          rcases hx with hx | ⟨b, o, rfl, hx⟩
          · exfalso; rw [hx] at h1; simp at h1
          obtain ⟨hc1, hc2, hc3, hc4⟩ := ent_cells hx h1
          replace hc1 := cell_below hB hc1
          replace hc2 := cell_below hB hc2
          replace hc3 := cell_below hB hc3
          replace hc4 := cell_below hB hc4
          have HST := Lib.hid (flat_step (f := entW) h1)
          have hok := HS5.out _ (List.getElem_mem h1)
          clear hx z0 z1 z2 hzr hB
          generalize hT : Md ++ (n.ents.take k).flatMap entW = T at *
          have hTl : T.length ≤ 60000 + 74 * 60 := by rw [← hT, List.length_append]; omega
          generalize n.ents[k] = y at *
          obtain ⟨nm, ek, ex, key⟩ := y
          simp only at hc1 hc2 hc3 hc4
          have hoks : (ek = 2 ∨ ek = 3) ∧ key.length ≤ 32 ∧ nm.length ≤ 31 := by
            unfold entOk at hok
            simp only [Bool.and_eq_true, Bool.or_eq_true, beq_iff_eq] at hok
            exact ⟨hok.1.elim .inl (fun h => .inr h.1), Nat.le_of_eq hok.2.1, nameB_len hok.2.2⟩
          obtain ⟨hek, hkl, hnl⟩ := hoks
          have HEW := Lib.hid (show entW (nm, ek, ex, key) = putText nm ++ [kindW (nm, ek, ex, key)] ++ key from rfl)
          obtain ⟨w5, hw5, hb5, hz5', hzz5⟩ : ∃ w5, w5 = wr.alloc (.cells #[S nm, .int .i64 ek, .bool ex, S key] 82) ∧ Below wr.heap.size wr w5 ∧ w5.heap[wr.heap.size]? = some (.cells #[S nm, .int .i64 ek, .bool ex, S key] 82 (0, 0)) ∧ w5.heap[w.heap.size]? = some (.cells #[.int .i64 kd, S d, .slice a1 n.parts.length c1, .slice (some ⟨b, o, none⟩) n.ents.length c2] 36 (0, 0)) :=
            ⟨_, rfl, (Below.refl _ _).alloc (Nat.le_refl _) _, heap_alloc_new _ _, (((Below.refl _ _).alloc (Nat.le_refl _) _).block _ (heap_lt HZR.out)).trans HZR.out⟩
          have HB5 := Lib.hid (below_chain HB.out hb5 HB.out.size)
          have HZ5 := Lib.hid hzz5
          obtain ⟨kc, hkc⟩ : ∃ kc, kindW (nm, ek, ex, key) = kc := ⟨_, rfl⟩
          rw [hkc] at HEW
          have hkv : (kc.toNat : Int) = if ex = true then ek + 4 else ek := by
            rw [← hkc]; unfold kindW
            rcases hek with rfl | rfl <;> cases ex <;> rfl
          have hek1 : IntKind.u8.wrap ek = ek := by simp only [IntKind.wrap, IntKind.bits, IntKind.signed]; simp; omega
          have hek2 : IntKind.u8.wrap (ek + 4) = ek + 4 := by simp only [IntKind.wrap, IntKind.bits, IntKind.signed]; simp; omega
          have CP := fun w => r01puttext_walk nm w (by omega)
          have hpv := putText_len nm (by omega)
          generalize putText nm = pt at *
          obtain ⟨R, hR⟩ : ∃ R, T ++ pt = R := ⟨_, rfl⟩
          obtain ⟨U, hU⟩ : ∃ U, R ++ [kc] = U := ⟨_, rfl⟩
          obtain ⟨V, hV⟩ : ∃ V, U ++ key = V := ⟨_, rfl⟩
          have hRl : R.length = T.length + pt.length := by rw [← hR, List.length_append]
          have hUl : U.length = R.length + 1 := by rw [← hU, List.length_append]; rfl
          have hcat1 : (⟨T.toArray⟩ : ByteArray) ++ (⟨pt.toArray⟩ : ByteArray) = ⟨R.toArray⟩ := by rw [← hR]; exact ba_cat T pt
          have hcat2 : (⟨R.toArray⟩ : ByteArray) ++ (⟨#[kc]⟩ : ByteArray) = ⟨U.toArray⟩ := by rw [← hU]; exact ba_cat R [kc]
          have hcat3 : (⟨U.toArray⟩ : ByteArray) ++ (⟨key.toArray⟩ : ByteArray) = ⟨V.toArray⟩ := by rw [← hV]; exact ba_cat U key
          have hns1 : ¬ 9223372036854775807 < T.length + pt.length := by omega
          have hns2 : ¬ 9223372036854775807 < R.length + 1 := by omega
          have hns3 : ¬ 9223372036854775807 < U.length + key.length := by omega
          have HV := Lib.hid (show Md ++ (n.ents.take (k + 1)).flatMap entW = V by rw [HST.out, HEW.out, ← hV, ← hU, ← hR, ← hT]; simp)
          obtain ⟨⟨y0, y1, y2, y3⟩, -, -⟩ := box4 hz5'
          have l0 := LaterOf.cell y0
          have l3 := LaterOf.cell y3
          have hcv := run_conv1 1 kc
          clear hT hR hU hV HST HEW hok hRl hUl hkc hz5' hzz5 hek
          go_upto_region 16 with fail
          rw [← hw5]
          clear hw5 hc1 hc2 hc3 hc4 hb5
          cases ex with
          | true =>
            rw [if_pos rfl] at hkv
            go_upto_region 19 with fail
            (refine wp_held (by kernel_rfl) ?_; intro lw)
            (refine wpAnyH_take (i := 0) (v := ?_) rfl (by kernel_rfl) (by kernel_rfl) (by kernel_rfl) (fun _ _ _ h => h) (Or.inl ⟨by rfl, ?_⟩) ⟨_, rfl⟩ ?_; rotate_left; (intro w9 hS9; obtain ⟨p9, hp9⟩ := hS9; subst hp9; go_simp; try with_reducible rfl))
            (refine wpAnyH_take (i := 1) (v := ?_) rfl (by kernel_rfl) (by kernel_rfl) (by kernel_rfl) (fun _ _ _ h => h) (Or.inl ⟨by rfl, ?_⟩) ⟨_, rfl⟩ ?_; rotate_left; (intro w9 hS9; obtain ⟨p9, hp9⟩ := hS9; subst hp9; go_simp; try with_reducible rfl))
            (refine wpAnyH_take (i := 2) (v := ?_) rfl (by kernel_rfl) (by kernel_rfl) (by kernel_rfl) (fun _ _ _ h => h) (Or.inl ⟨by rfl, ?_⟩) ⟨_, rfl⟩ ?_; rotate_left; (intro w9 hS9; obtain ⟨p9, hp9⟩ := hS9; subst hp9; go_simp; try with_reducible rfl))
            (refine wpAnyH_take (i := 5) (v := ?_) rfl (by kernel_rfl) (by kernel_rfl) (by kernel_rfl) (fun _ _ _ h => h) (Or.inl ⟨by rfl, ?_⟩) ⟨_, rfl⟩ ?_; rotate_left; (intro w9 hS9; obtain ⟨p9, hp9⟩ := hS9; subst hp9; go_simp; try with_reducible rfl))
            (refine wpAnyH_take (i := 9) (v := ?_) rfl (by kernel_rfl) (by kernel_rfl) (by kernel_rfl) (fun _ _ _ h => h) (Or.inl ⟨by rfl, ?_⟩) ⟨_, rfl⟩ ?_; rotate_left; (intro w9 hS9; obtain ⟨p9, hp9⟩ := hS9; subst hp9; go_simp; try with_reducible rfl))
            (refine wpAnyH_take (i := 10) (v := ?_) rfl (by kernel_rfl) (by kernel_rfl) (by kernel_rfl) (fun _ _ _ h => h) (Or.inl ⟨by rfl, ?_⟩) ⟨_, rfl⟩ ?_; rotate_left; (intro w9 hS9; obtain ⟨p9, hp9⟩ := hS9; subst hp9; go_simp; try with_reducible rfl))
            refine wpAnyH_two (i := 3) (j := 6) (by kernel_rfl) rfl rfl (fun K hK => ?_) (fun K hK => ?_)
            · go_simp
              refine (CP _).mono ?_
              rintro e wz ⟨rfl, hbz⟩
              skip
              obtain ⟨lz, rfl⟩ : ∃ p : LaterOf w5, wz = p.world := ⟨⟨wz, below_chain lw.below hbz lw.below.size⟩, rfl⟩
              refine hK _ _ ⟨lz, rfl⟩ ?_
              clear hK K hbz
              (refine wpAnyH_take (i := 4) (v := ?_) rfl (by kernel_rfl) (by kernel_rfl) (by kernel_rfl) (fun _ _ _ h => h) (Or.inl ⟨by rfl, ?_⟩) ⟨_, rfl⟩ ?_; rotate_left; (intro w9 hS9; obtain ⟨p9, hp9⟩ := hS9; subst hp9; go_simp; try with_reducible rfl))
              refine wpAnyH_one (i := 6) (by kernel_rfl) rfl (fun K hK => ?_)
              go_simp
              obtain ⟨lb, hlb, hcell⟩ : ∃ p : LaterOf w5, lz.world.alloc (.cells #[.int .u8 (ek + 4)] 5) = p.world ∧ p.world.cell? ⟨lz.world.heap.size, 0, none⟩ = some (.int .u8 (ek + 4)) :=
                ⟨⟨_, lz.below.alloc lz.below.size _⟩, rfl, cell_new _ _ _ _ rfl⟩
              rw [hlb]
              refine hK _ _ ⟨lb, rfl⟩ ?_
              clear hK K hlb
              (refine wpAnyH_one (i := 7) (by kernel_rfl) rfl (fun K hK => ?_); go_simp; refine hK _ _ ⟨_, rfl⟩ ?_; clear hK K)
              (refine wpAnyH_one (i := 8) (by kernel_rfl) rfl (fun K hK => ?_); go_simp; refine hK _ _ ⟨_, rfl⟩ ?_; clear hK K)
              (refine wpAnyH_one (i := 11) (by kernel_rfl) rfl (fun K hK => ?_); go_simp; refine hK _ _ ⟨_, rfl⟩ ?_; clear hK K)
              (refine wpAnyH_one (i := 12) (by kernel_rfl) rfl (fun K hK => ?_); go_simp; refine hK _ _ ⟨_, rfl⟩ ?_; clear hK K)
              (refine wpAnyH_done (by kernel_rfl) ?_ _)
              go_wp2
              go_roundw
              case rel => exact ⟨k + 1, by omega, by go_num, by rw [HV.out], (lb.below.block _ (heap_lt HZ5.out)).trans HZ5.out, below_chain HB5.out lb.below HB5.out.size⟩
              case measure => simp [intOf]; omega
            · go_simp
              obtain ⟨lb, hlb, hcell⟩ : ∃ p : LaterOf w5, lw.world.alloc (.cells #[.int .u8 (ek + 4)] 5) = p.world ∧ p.world.cell? ⟨lw.world.heap.size, 0, none⟩ = some (.int .u8 (ek + 4)) :=
                ⟨⟨_, lw.below.alloc lw.below.size _⟩, rfl, cell_new _ _ _ _ rfl⟩
              rw [hlb]
              refine hK _ _ ⟨lb, rfl⟩ ?_
              clear hK K hlb
              refine wpAnyH_two (i := 3) (j := 7) (by kernel_rfl) rfl rfl (fun K hK => ?_) (fun K hK => ?_)
              · go_simp
                refine (CP _).mono ?_
                rintro e wz ⟨rfl, hbz⟩
                replace hcell := cell_below hbz hcell
                obtain ⟨lz, rfl⟩ : ∃ p : LaterOf w5, wz = p.world := ⟨⟨wz, below_chain lb.below hbz lb.below.size⟩, rfl⟩
                refine hK _ _ ⟨lz, rfl⟩ ?_
                clear hK K hbz
                (refine wpAnyH_take (i := 4) (v := ?_) rfl (by kernel_rfl) (by kernel_rfl) (by kernel_rfl) (fun _ _ _ h => h) (Or.inl ⟨by rfl, ?_⟩) ⟨_, rfl⟩ ?_; rotate_left; (intro w9 hS9; obtain ⟨p9, hp9⟩ := hS9; subst hp9; go_simp; try with_reducible rfl))
                (refine wpAnyH_one (i := 7) (by kernel_rfl) rfl (fun K hK => ?_); go_simp; refine hK _ _ ⟨_, rfl⟩ ?_; clear hK K)
                (refine wpAnyH_one (i := 8) (by kernel_rfl) rfl (fun K hK => ?_); go_simp; refine hK _ _ ⟨_, rfl⟩ ?_; clear hK K)
                (refine wpAnyH_one (i := 11) (by kernel_rfl) rfl (fun K hK => ?_); go_simp; refine hK _ _ ⟨_, rfl⟩ ?_; clear hK K)
                (refine wpAnyH_one (i := 12) (by kernel_rfl) rfl (fun K hK => ?_); go_simp; refine hK _ _ ⟨_, rfl⟩ ?_; clear hK K)
                (refine wpAnyH_done (by kernel_rfl) ?_ _)
                go_wp2
                go_roundw
                case rel => exact ⟨k + 1, by omega, by go_num, by rw [HV.out], (lz.below.block _ (heap_lt HZ5.out)).trans HZ5.out, below_chain HB5.out lz.below HB5.out.size⟩
                case measure => simp [intOf]; omega
              · go_simp
                refine hK _ _ ⟨lb, rfl⟩ ?_
                clear hK K
                refine wpAnyH_one (i := 3) (by kernel_rfl) rfl (fun K hK => ?_)
                go_simp
                refine (CP _).mono ?_
                rintro e wz ⟨rfl, hbz⟩
                skip
                obtain ⟨lz, rfl⟩ : ∃ p : LaterOf w5, wz = p.world := ⟨⟨wz, below_chain lb.below hbz lb.below.size⟩, rfl⟩
                refine hK _ _ ⟨lz, rfl⟩ ?_
                clear hK K hbz
                (refine wpAnyH_take (i := 4) (v := ?_) rfl (by kernel_rfl) (by kernel_rfl) (by kernel_rfl) (fun _ _ _ h => h) (Or.inl ⟨by rfl, ?_⟩) ⟨_, rfl⟩ ?_; rotate_left; (intro w9 hS9; obtain ⟨p9, hp9⟩ := hS9; subst hp9; go_simp; try with_reducible rfl))
                (refine wpAnyH_one (i := 8) (by kernel_rfl) rfl (fun K hK => ?_); go_simp; refine hK _ _ ⟨_, rfl⟩ ?_; clear hK K)
                (refine wpAnyH_one (i := 11) (by kernel_rfl) rfl (fun K hK => ?_); go_simp; refine hK _ _ ⟨_, rfl⟩ ?_; clear hK K)
                (refine wpAnyH_one (i := 12) (by kernel_rfl) rfl (fun K hK => ?_); go_simp; refine hK _ _ ⟨_, rfl⟩ ?_; clear hK K)
                (refine wpAnyH_done (by kernel_rfl) ?_ _)
                go_wp2
                go_roundw
                case rel => exact ⟨k + 1, by omega, by go_num, by rw [HV.out], (lz.below.block _ (heap_lt HZ5.out)).trans HZ5.out, below_chain HB5.out lz.below HB5.out.size⟩
                case measure => simp [intOf]; omega
          | false =>
            rw [if_neg (by simp)] at hkv
            go_upto_region 19 with fail
            (refine wp_held (by kernel_rfl) ?_; intro lw)
            (refine wpAnyH_take (i := 0) (v := ?_) rfl (by kernel_rfl) (by kernel_rfl) (by kernel_rfl) (fun _ _ _ h => h) (Or.inl ⟨by rfl, ?_⟩) ⟨_, rfl⟩ ?_; rotate_left; (intro w9 hS9; obtain ⟨p9, hp9⟩ := hS9; subst hp9; go_simp; try with_reducible rfl))
            (refine wpAnyH_take (i := 1) (v := ?_) rfl (by kernel_rfl) (by kernel_rfl) (by kernel_rfl) (fun _ _ _ h => h) (Or.inl ⟨by rfl, ?_⟩) ⟨_, rfl⟩ ?_; rotate_left; (intro w9 hS9; obtain ⟨p9, hp9⟩ := hS9; subst hp9; go_simp; try with_reducible rfl))
            (refine wpAnyH_take (i := 2) (v := ?_) rfl (by kernel_rfl) (by kernel_rfl) (by kernel_rfl) (fun _ _ _ h => h) (Or.inl ⟨by rfl, ?_⟩) ⟨_, rfl⟩ ?_; rotate_left; (intro w9 hS9; obtain ⟨p9, hp9⟩ := hS9; subst hp9; go_simp; try with_reducible rfl))
            (refine wpAnyH_take (i := 5) (v := ?_) rfl (by kernel_rfl) (by kernel_rfl) (by kernel_rfl) (fun _ _ _ h => h) (Or.inl ⟨by rfl, ?_⟩) ⟨_, rfl⟩ ?_; rotate_left; (intro w9 hS9; obtain ⟨p9, hp9⟩ := hS9; subst hp9; go_simp; try with_reducible rfl))
            (refine wpAnyH_take (i := 9) (v := ?_) rfl (by kernel_rfl) (by kernel_rfl) (by kernel_rfl) (fun _ _ _ h => h) (Or.inl ⟨by rfl, ?_⟩) ⟨_, rfl⟩ ?_; rotate_left; (intro w9 hS9; obtain ⟨p9, hp9⟩ := hS9; subst hp9; go_simp; try with_reducible rfl))
            (refine wpAnyH_take (i := 10) (v := ?_) rfl (by kernel_rfl) (by kernel_rfl) (by kernel_rfl) (fun _ _ _ h => h) (Or.inl ⟨by rfl, ?_⟩) ⟨_, rfl⟩ ?_; rotate_left; (intro w9 hS9; obtain ⟨p9, hp9⟩ := hS9; subst hp9; go_simp; try with_reducible rfl))
            refine wpAnyH_two (i := 3) (j := 6) (by kernel_rfl) rfl rfl (fun K hK => ?_) (fun K hK => ?_)
            · go_simp
              refine (CP _).mono ?_
              rintro e wz ⟨rfl, hbz⟩
              skip
              obtain ⟨lz, rfl⟩ : ∃ p : LaterOf w5, wz = p.world := ⟨⟨wz, below_chain lw.below hbz lw.below.size⟩, rfl⟩
              refine hK _ _ ⟨lz, rfl⟩ ?_
              clear hK K hbz
              (refine wpAnyH_take (i := 4) (v := ?_) rfl (by kernel_rfl) (by kernel_rfl) (by kernel_rfl) (fun _ _ _ h => h) (Or.inl ⟨by rfl, ?_⟩) ⟨_, rfl⟩ ?_; rotate_left; (intro w9 hS9; obtain ⟨p9, hp9⟩ := hS9; subst hp9; go_simp; try with_reducible rfl))
              refine wpAnyH_one (i := 6) (by kernel_rfl) rfl (fun K hK => ?_)
              go_simp
              obtain ⟨lb, hlb, hcell⟩ : ∃ p : LaterOf w5, lz.world.alloc (.cells #[.int .u8 ek] 5) = p.world ∧ p.world.cell? ⟨lz.world.heap.size, 0, none⟩ = some (.int .u8 ek) :=
                ⟨⟨_, lz.below.alloc lz.below.size _⟩, rfl, cell_new _ _ _ _ rfl⟩
              rw [hlb]
              refine hK _ _ ⟨lb, rfl⟩ ?_
              clear hK K hlb
              (refine wpAnyH_one (i := 7) (by kernel_rfl) rfl (fun K hK => ?_); go_simp; refine hK _ _ ⟨_, rfl⟩ ?_; clear hK K)
              (refine wpAnyH_one (i := 8) (by kernel_rfl) rfl (fun K hK => ?_); go_simp; refine hK _ _ ⟨_, rfl⟩ ?_; clear hK K)
              (refine wpAnyH_one (i := 11) (by kernel_rfl) rfl (fun K hK => ?_); go_simp; refine hK _ _ ⟨_, rfl⟩ ?_; clear hK K)
              (refine wpAnyH_one (i := 12) (by kernel_rfl) rfl (fun K hK => ?_); go_simp; refine hK _ _ ⟨_, rfl⟩ ?_; clear hK K)
              (refine wpAnyH_done (by kernel_rfl) ?_ _)
              go_wp2
              go_roundw
              case rel => exact ⟨k + 1, by omega, by go_num, by rw [HV.out], (lb.below.block _ (heap_lt HZ5.out)).trans HZ5.out, below_chain HB5.out lb.below HB5.out.size⟩
              case measure => simp [intOf]; omega
            · go_simp
              obtain ⟨lb, hlb, hcell⟩ : ∃ p : LaterOf w5, lw.world.alloc (.cells #[.int .u8 ek] 5) = p.world ∧ p.world.cell? ⟨lw.world.heap.size, 0, none⟩ = some (.int .u8 ek) :=
                ⟨⟨_, lw.below.alloc lw.below.size _⟩, rfl, cell_new _ _ _ _ rfl⟩
              rw [hlb]
              refine hK _ _ ⟨lb, rfl⟩ ?_
              clear hK K hlb
              refine wpAnyH_two (i := 3) (j := 7) (by kernel_rfl) rfl rfl (fun K hK => ?_) (fun K hK => ?_)
              · go_simp
                refine (CP _).mono ?_
                rintro e wz ⟨rfl, hbz⟩
                replace hcell := cell_below hbz hcell
                obtain ⟨lz, rfl⟩ : ∃ p : LaterOf w5, wz = p.world := ⟨⟨wz, below_chain lb.below hbz lb.below.size⟩, rfl⟩
                refine hK _ _ ⟨lz, rfl⟩ ?_
                clear hK K hbz
                (refine wpAnyH_take (i := 4) (v := ?_) rfl (by kernel_rfl) (by kernel_rfl) (by kernel_rfl) (fun _ _ _ h => h) (Or.inl ⟨by rfl, ?_⟩) ⟨_, rfl⟩ ?_; rotate_left; (intro w9 hS9; obtain ⟨p9, hp9⟩ := hS9; subst hp9; go_simp; try with_reducible rfl))
                (refine wpAnyH_one (i := 7) (by kernel_rfl) rfl (fun K hK => ?_); go_simp; refine hK _ _ ⟨_, rfl⟩ ?_; clear hK K)
                (refine wpAnyH_one (i := 8) (by kernel_rfl) rfl (fun K hK => ?_); go_simp; refine hK _ _ ⟨_, rfl⟩ ?_; clear hK K)
                (refine wpAnyH_one (i := 11) (by kernel_rfl) rfl (fun K hK => ?_); go_simp; refine hK _ _ ⟨_, rfl⟩ ?_; clear hK K)
                (refine wpAnyH_one (i := 12) (by kernel_rfl) rfl (fun K hK => ?_); go_simp; refine hK _ _ ⟨_, rfl⟩ ?_; clear hK K)
                (refine wpAnyH_done (by kernel_rfl) ?_ _)
                go_wp2
                go_roundw
                case rel => exact ⟨k + 1, by omega, by go_num, by rw [HV.out], (lz.below.block _ (heap_lt HZ5.out)).trans HZ5.out, below_chain HB5.out lz.below HB5.out.size⟩
                case measure => simp [intOf]; omega
              · go_simp
                refine hK _ _ ⟨lb, rfl⟩ ?_
                clear hK K
                refine wpAnyH_one (i := 3) (by kernel_rfl) rfl (fun K hK => ?_)
                go_simp
                refine (CP _).mono ?_
                rintro e wz ⟨rfl, hbz⟩
                skip
                obtain ⟨lz, rfl⟩ : ∃ p : LaterOf w5, wz = p.world := ⟨⟨wz, below_chain lb.below hbz lb.below.size⟩, rfl⟩
                refine hK _ _ ⟨lz, rfl⟩ ?_
                clear hK K hbz
                (refine wpAnyH_take (i := 4) (v := ?_) rfl (by kernel_rfl) (by kernel_rfl) (by kernel_rfl) (fun _ _ _ h => h) (Or.inl ⟨by rfl, ?_⟩) ⟨_, rfl⟩ ?_; rotate_left; (intro w9 hS9; obtain ⟨p9, hp9⟩ := hS9; subst hp9; go_simp; try with_reducible rfl))
                (refine wpAnyH_one (i := 8) (by kernel_rfl) rfl (fun K hK => ?_); go_simp; refine hK _ _ ⟨_, rfl⟩ ?_; clear hK K)
                (refine wpAnyH_one (i := 11) (by kernel_rfl) rfl (fun K hK => ?_); go_simp; refine hK _ _ ⟨_, rfl⟩ ?_; clear hK K)
                (refine wpAnyH_one (i := 12) (by kernel_rfl) rfl (fun K hK => ?_); go_simp; refine hK _ _ ⟨_, rfl⟩ ?_; clear hK K)
                (refine wpAnyH_done (by kernel_rfl) ?_ _)
                go_wp2
                go_roundw
                case rel => exact ⟨k + 1, by omega, by go_num, by rw [HV.out], (lz.below.block _ (heap_lt HZ5.out)).trans HZ5.out, below_chain HB5.out lz.below HB5.out.size⟩
                case measure => simp [intOf]; omega
        · have h1' : ¬ (k : Int) < (n.ents.length : Int) := by omega
          obtain rfl : k = n.ents.length := by omega
          rw [List.take_of_length_le (Nat.le_refl _)] at hfl ⊢
          have HF := Lib.hid HWN.out
          generalize hT : Md ++ n.ents.flatMap entW = T at *
          go_wp2
          go_ret
          exact ⟨by rw [HF.out]; rfl, HB.out⟩
end Go.Proofs.YtaompdnnkfmjhaaGreatDoor

namespace Go.Proofs.YtaompdnnkfmjhaaGreatDoor
open Go.RowKit

/-- a word turned down. -/
def rotN (n x : Nat) : Nat := x / 2 ^ n + x % 2 ^ n * 2 ^ (32 - n)
theorem pow_split {n : Nat} (hn : n ≤ 32) : 2 ^ n * 2 ^ (32 - n) = 4294967296 := by rw [← Nat.pow_add, show n + (32 - n) = 32 by omega]
theorem rot_hi {n x : Nat} (hn : n ≤ 32) (h : x < 4294967296) : x / 2 ^ n < 2 ^ (32 - n) := Nat.div_lt_of_lt_mul (by rw [pow_split hn]; exact h)
theorem rotN_lt {n x : Nat} (hn : n ≤ 32) (h : x < 4294967296) : rotN n x < 4294967296 := by
  unfold rotN
  have h1 := rot_hi hn h
  have h2 : x % 2 ^ n < 2 ^ n := Nat.mod_lt _ (Nat.two_pow_pos n)
  have h3 : (x % 2 ^ n + 1) * 2 ^ (32 - n) ≤ 2 ^ n * 2 ^ (32 - n) := Nat.mul_le_mul_right _ h2
  rw [pow_split hn, Nat.add_mul, Nat.one_mul] at h3
  omega
theorem or_rot {n x : Nat} (hn : n ≤ 32) (h : x < 4294967296) : x / 2 ^ n ||| x * 2 ^ (32 - n) % 4294967296 = rotN n x := by
  have h2 : x * 2 ^ (32 - n) % 4294967296 = x % 2 ^ n * 2 ^ (32 - n) := by rw [← pow_split hn, Nat.mul_mod_mul_right]
  rw [h2, Nat.or_comm, ← Nat.shiftLeft_eq, ← Nat.shiftLeft_add_eq_or_of_lt (rot_hi hn h), Nat.shiftLeft_eq]
  unfold rotN
  omega
theorem cast_hi (x n : Nat) : (x : Int) / 2 ^ n = ((x / 2 ^ n : Nat) : Int) := by rw [Int.natCast_ediv, Int.natCast_pow]; rfl
theorem cast_lo (x n : Nat) : (x : Int) * 2 ^ n % 4294967296 = ((x * 2 ^ n % 4294967296 : Nat) : Int) := by rw [Int.natCast_emod, Int.natCast_mul, Int.natCast_pow]; rfl
theorem bits_rot {n x : Nat} (hn : n ≤ 32) (h : x < 4294967296) : bits BinOp.or IntKind.u32 ((x : Int) / 2 ^ n) ((x : Int) * 2 ^ (32 - n) % 4294967296) = ((rotN n x : Nat) : Int) := by
  rw [cast_hi, cast_lo, u32_or_nat _ _ (Nat.lt_of_le_of_lt (Nat.div_le_self _ _) h) (Nat.mod_lt _ (by decide)), or_rot hn h]
theorem bits_rot' {n x : Nat} (hn : n ≤ 32) (h : x < 4294967296) : bits BinOp.or IntKind.u32 ((x : Int) * 2 ^ (32 - n) % 4294967296) ((x : Int) / 2 ^ n) = ((rotN n x : Nat) : Int) := by
  rw [cast_hi, cast_lo, u32_or_nat _ _ (Nat.mod_lt _ (by decide)) (Nat.lt_of_le_of_lt (Nat.div_le_self _ _) h), Nat.or_comm, or_rot hn h]

theorem xor32 {a b : Nat} (h : a < 4294967296) (k : b < 4294967296) : a ^^^ b < 4294967296 := Nat.xor_lt_two_pow (n := 32) h k
theorem and32 {a b : Nat} (k : b < 4294967296) : a &&& b < 4294967296 := Nat.and_lt_two_pow (n := 32) a k
theorem or32 {a b : Nat} (h : a < 4294967296) (k : b < 4294967296) : a ||| b < 4294967296 := Nat.or_lt_two_pow (n := 32) h k

def chN (e f g : Nat) : Nat := (e &&& f) ^^^ ((4294967295 - e) &&& g)
def majN (a b c : Nat) : Nat := (a &&& b) ^^^ (a &&& c) ^^^ (b &&& c)
def bsA (a : Nat) : Nat := rotN 2 a ^^^ rotN 13 a ^^^ rotN 22 a
def bsE (e : Nat) : Nat := rotN 6 e ^^^ rotN 11 e ^^^ rotN 25 e
def ssA (x : Nat) : Nat := rotN 7 x ^^^ rotN 18 x ^^^ x / 8
def ssB (x : Nat) : Nat := rotN 17 x ^^^ rotN 19 x ^^^ x / 1024

theorem chN_lt {e f g : Nat} (hf : f < 4294967296) (hg : g < 4294967296) : chN e f g < 4294967296 := xor32 (and32 hf) (and32 hg)
theorem majN_lt {a b c : Nat} (hb : b < 4294967296) (hc : c < 4294967296) : majN a b c < 4294967296 := xor32 (xor32 (and32 hb) (and32 hc)) (and32 hc)
theorem bsA_lt {a : Nat} (h : a < 4294967296) : bsA a < 4294967296 := xor32 (xor32 (rotN_lt (by decide) h) (rotN_lt (by decide) h)) (rotN_lt (by decide) h)
theorem bsE_lt {a : Nat} (h : a < 4294967296) : bsE a < 4294967296 := xor32 (xor32 (rotN_lt (by decide) h) (rotN_lt (by decide) h)) (rotN_lt (by decide) h)
theorem ssA_lt {a : Nat} (h : a < 4294967296) : ssA a < 4294967296 := xor32 (xor32 (rotN_lt (by decide) h) (rotN_lt (by decide) h)) (by omega)
theorem ssB_lt {a : Nat} (h : a < 4294967296) : ssB a < 4294967296 := xor32 (xor32 (rotN_lt (by decide) h) (rotN_lt (by decide) h)) (by omega)

theorem not_bit {e : Nat} (h : e < 4294967296) (i : Nat) : (4294967295 - e).testBit i = (decide (i < 32) && !e.testBit i) := by
  have := Nat.testBit_two_pow_sub_succ (n := 32) h i
  rwa [show 2 ^ 32 - (e + 1) = 4294967295 - e by omega] at this
theorem ch_alt {e f g : Nat} (he : e < 4294967296) (hg : g < 4294967296) : g ^^^ (e &&& (f ^^^ g)) = chN e f g := by
  unfold chN
  apply Nat.eq_of_testBit_eq
  intro i
  simp only [Nat.testBit_xor, Nat.testBit_and, not_bit he]
  by_cases hi : i < 32
  · cases e.testBit i <;> cases f.testBit i <;> cases g.testBit i <;> simp [hi]
  · have : g.testBit i = false := Nat.testBit_lt_two_pow (Nat.lt_of_lt_of_le hg (show 2 ^ 32 ≤ 2 ^ i from Nat.pow_le_pow_right (by decide) (by omega)))
    rw [this]
    cases e.testBit i <;> cases f.testBit i <;> simp [hi]
theorem maj_alt (a b c : Nat) : (a &&& b) ||| (c &&& (a ||| b)) = majN a b c := by
  unfold majN
  apply Nat.eq_of_testBit_eq
  intro i
  simp only [Nat.testBit_xor, Nat.testBit_and, Nat.testBit_or]
  cases a.testBit i <;> cases b.testBit i <;> cases c.testBit i <;> rfl

/-- eight words. -/
structure H8 where
  a : Nat
  b : Nat
  c : Nat
  d : Nat
  e : Nat
  f : Nat
  g : Nat
  h : Nat
structure H8.ok (v : H8) : Prop where
  a : v.a < 4294967296
  b : v.b < 4294967296
  c : v.c < 4294967296
  d : v.d < 4294967296
  e : v.e < 4294967296
  f : v.f < 4294967296
  g : v.g < 4294967296
  h : v.h < 4294967296

def kSha : List Nat := [1116352408, 1899447441, 3049323471, 3921009573, 961987163, 1508970993, 2453635748, 2870763221, 3624381080, 310598401, 607225278, 1426881987, 1925078388, 2162078206, 2614888103, 3248222580, 3835390401, 4022224774, 264347078, 604807628, 770255983, 1249150122, 1555081692, 1996064986, 2554220882, 2821834349, 2952996808, 3210313671, 3336571891, 3584528711, 113926993, 338241895, 666307205, 773529912, 1294757372, 1396182291, 1695183700, 1986661051, 2177026350, 2456956037, 2730485921, 2820302411, 3259730800, 3345764771, 3516065817, 3600352804, 4094571909, 275423344, 430227734, 506948616, 659060556, 883997877, 958139571, 1322822218, 1537002063, 1747873779, 1955562222, 2024104815, 2227730452, 2361852424, 2428436474, 2756734187, 3204031479, 3329325298]
def h0Sha : H8 := ⟨1779033703, 3144134277, 1013904242, 2773480762, 1359893119, 2600822924, 528734635, 1541459225⟩
theorem h0_ok : h0Sha.ok := ⟨by decide, by decide, by decide, by decide, by decide, by decide, by decide, by decide⟩

def tSha (v : H8) (k w : Nat) : Nat := (v.h + bsE v.e + chN v.e v.f v.g + k + w) % 4294967296
def stepH (v : H8) (k w : Nat) : H8 := ⟨(tSha v k w + bsA v.a + majN v.a v.b v.c) % 4294967296, v.a, v.b, v.c, (v.d + tSha v k w) % 4294967296, v.e, v.f, v.g⟩
theorem stepH_ok {v : H8} (h : v.ok) (k w : Nat) : (stepH v k w).ok := ⟨Nat.mod_lt _ (by decide), h.a, h.b, h.c, Nat.mod_lt _ (by decide), h.e, h.f, h.g⟩
def runH (v : H8) (ws : List Nat) : Nat → H8
  | 0 => v
  | n + 1 => stepH (runH v ws n) (kSha.getD n 0) (ws.getD n 0)
theorem runH_ok {v : H8} (h : v.ok) (ws : List Nat) : ∀ n, (runH v ws n).ok
  | 0 => h
  | n + 1 => stepH_ok (runH_ok h ws n) _ _
def addH (x y : H8) : H8 := ⟨(x.a + y.a) % 4294967296, (x.b + y.b) % 4294967296, (x.c + y.c) % 4294967296, (x.d + y.d) % 4294967296, (x.e + y.e) % 4294967296, (x.f + y.f) % 4294967296, (x.g + y.g) % 4294967296, (x.h + y.h) % 4294967296⟩
theorem addH_ok (x y : H8) : (addH x y).ok := ⟨Nat.mod_lt _ (by decide), Nat.mod_lt _ (by decide), Nat.mod_lt _ (by decide), Nat.mod_lt _ (by decide), Nat.mod_lt _ (by decide), Nat.mod_lt _ (by decide), Nat.mod_lt _ (by decide), Nat.mod_lt _ (by decide)⟩

/-- a block's words. -/
def wordB (b : List UInt8) (j : Nat) : Nat := (b.getD (4 * j) 0).toNat * 16777216 + (b.getD (4 * j + 1) 0).toNat * 65536 + (b.getD (4 * j + 2) 0).toNat * 256 + (b.getD (4 * j + 3) 0).toNat
theorem wordB_lt (b : List UInt8) (j : Nat) : wordB b j < 4294967296 := by
  unfold wordB
  have h1 := UInt8.toNat_lt (b.getD (4 * j) 0)
  have h2 := UInt8.toNat_lt (b.getD (4 * j + 1) 0)
  have h3 := UInt8.toNat_lt (b.getD (4 * j + 2) 0)
  have h4 := UInt8.toNat_lt (b.getD (4 * j + 3) 0)
  omega
def nextW (ws : List Nat) : Nat := (ws.getD (ws.length - 16) 0 + ssA (ws.getD (ws.length - 15) 0) + ws.getD (ws.length - 7) 0 + ssB (ws.getD (ws.length - 2) 0)) % 4294967296
def extW : Nat → List Nat → List Nat
  | 0, ws => ws
  | n + 1, ws => extW n (ws ++ [nextW ws])
theorem extW_len : ∀ n ws, (extW n ws).length = ws.length + n
  | 0, _ => rfl
  | n + 1, ws => by rw [extW, extW_len n]; simp; omega
def W32 (ws : List Nat) : Prop := ∀ x ∈ ws, x < 4294967296
theorem W32.snoc {ws : List Nat} (h : W32 ws) {x : Nat} (hx : x < 4294967296) : W32 (ws ++ [x]) := by
  intro y hy
  rcases List.mem_append.1 hy with hy | hy
  · exact h y hy
  · rw [List.mem_singleton.1 hy]; exact hx
theorem W32.at {ws : List Nat} (h : W32 ws) {i : Nat} (hi : i < ws.length) : ws[i] < 4294967296 := h _ (List.getElem_mem hi)
theorem nextW_lt (ws : List Nat) : nextW ws < 4294967296 := Nat.mod_lt _ (by decide)
theorem extW_32 : ∀ n ws, W32 ws → W32 (extW n ws)
  | 0, _, h => h
  | n + 1, _, h => extW_32 n _ (h.snoc (nextW_lt _))
def firstW (b : List UInt8) : List Nat := (List.range 16).map (wordB b)
theorem firstW_32 (b : List UInt8) : W32 (firstW b) := by
  intro x hx
  obtain ⟨j, -, rfl⟩ := List.mem_map.1 hx
  exact wordB_lt b j
def schedW (b : List UInt8) : List Nat := extW 48 (firstW b)
theorem schedW_len (b : List UInt8) : (schedW b).length = 64 := by
  unfold schedW firstW
  rw [extW_len]; simp
theorem schedW_32 (b : List UInt8) : W32 (schedW b) := extW_32 _ _ (firstW_32 b)
def blockH (h : H8) (b : List UInt8) : H8 := addH h (runH h (schedW b) 64)

/-- blocks of 64 bytes, one behind the other: n of them. -/
def blocksH (h : H8) (l : List UInt8) : Nat → H8
  | 0 => h
  | n + 1 => blockH (blocksH h l n) ((l.drop (64 * n)).take 64)
theorem blocksH_ok {h : H8} (hh : h.ok) (l : List UInt8) : ∀ n, (blocksH h l n).ok
  | 0 => hh
  | _ + 1 => addH_ok _ _
theorem blocksH_more (h : H8) (l m : List UInt8) : ∀ n, 64 * n ≤ l.length → blocksH h (l ++ m) n = blocksH h l n
  | 0, _ => rfl
  | n + 1, hn => by
    rw [blocksH, blocksH, blocksH_more h l m n (by omega), List.drop_append_of_le_length (by omega), List.take_append_of_le_length (by rw [List.length_drop]; omega)]
/-- the hash behind bytes, whole blocks alone. -/
def feedH (l : List UInt8) : H8 := blocksH h0Sha l (l.length / 64)
theorem feedH_ok (l : List UInt8) : (feedH l).ok := blocksH_ok h0_ok _ _
theorem feedH_snoc (l : List UInt8) (c : UInt8) : feedH (l ++ [c]) = if l.length % 64 = 63 then blockH (feedH l) (l.drop (64 * (l.length / 64)) ++ [c]) else feedH l := by
  unfold feedH
  rw [List.length_append, List.length_singleton]
  split
  · rename_i h
    rw [show (l.length + 1) / 64 = l.length / 64 + 1 by omega, blocksH, blocksH_more _ _ _ _ (by omega), List.drop_append_of_le_length (by omega), List.take_of_length_le (by rw [List.length_append, List.length_drop, List.length_singleton]; omega)]
  · rename_i h
    rw [show (l.length + 1) / 64 = l.length / 64 by omega, blocksH_more _ _ _ _ (by omega)]

def wordBytes (x : Nat) : List UInt8 := [UInt8.ofNat (x / 16777216), UInt8.ofNat (x / 65536), UInt8.ofNat (x / 256), UInt8.ofNat x]
def H8.words (v : H8) : List Nat := [v.a, v.b, v.c, v.d, v.e, v.f, v.g, v.h]
def H8.bytes (v : H8) : List UInt8 := v.words.flatMap wordBytes
theorem H8.bytes_len (v : H8) : v.bytes.length = 32 := rfl
theorem H8.ok.words {v : H8} (h : v.ok) : W32 v.words := by
  intro x hx
  simp only [H8.words, List.mem_cons, List.not_mem_nil, or_false] at hx
  rcases hx with rfl | rfl | rfl | rfl | rfl | rfl | rfl | rfl
  · exact h.a
  · exact h.b
  · exact h.c
  · exact h.d
  · exact h.e
  · exact h.f
  · exact h.g
  · exact h.h

/-- how many zeros are put behind n bytes (n: with the byte 128), so that 56 of the last block are there. -/
def zerosN (n : Nat) : Nat := (56 + 64 - n % 64) % 64
theorem zerosN_zero {n : Nat} (h : n % 64 = 56) : zerosN n = 0 := by unfold zerosN; omega
theorem zerosN_succ {n : Nat} (h : ¬ n % 64 = 56) : zerosN n = zerosN (n + 1) + 1 := by unfold zerosN; omega
theorem zerosN_lt (n : Nat) : zerosN n < 64 := by unfold zerosN; omega
/-- a number's eight bytes. -/
def bytes8 (n : Nat) : List UInt8 := [UInt8.ofNat (n / 2 ^ 56), UInt8.ofNat (n / 2 ^ 48), UInt8.ofNat (n / 2 ^ 40), UInt8.ofNat (n / 2 ^ 32), UInt8.ofNat (n / 2 ^ 24), UInt8.ofNat (n / 2 ^ 16), UInt8.ofNat (n / 2 ^ 8), UInt8.ofNat n]
def padZ (l : List UInt8) : List UInt8 := l ++ [128] ++ List.replicate (zerosN (l.length + 1)) 0
def padS (l : List UInt8) : List UInt8 := padZ l ++ bytes8 (l.length * 8)
theorem padZ_len (l : List UInt8) : (padZ l).length % 64 = 56 := by
  unfold padZ zerosN
  simp only [List.length_append, List.length_singleton, List.length_replicate]
  omega
theorem padS_len (l : List UInt8) : (padS l).length = (padZ l).length + 8 := by unfold padS; rw [List.length_append]; rfl
theorem padZ_le (l : List UInt8) : (padZ l).length ≤ l.length + 64 := by
  unfold padZ
  have := zerosN_lt (l.length + 1)
  simp only [List.length_append, List.length_singleton, List.length_replicate]
  omega
/-- a text's sum. -/
def shaF (l : List UInt8) : List UInt8 := (feedH (padS l)).bytes
theorem shaF_len (l : List UInt8) : (shaF l).length = 32 := H8.bytes_len _

/-- a block's words of its first i bytes. -/
def begW (b : List UInt8) (i : Nat) : List Nat := (List.range 64).map (wordB (b.take i))
theorem begW_len (b : List UInt8) (i : Nat) : (begW b i).length = 64 := by simp [begW]
theorem begW_at (b : List UInt8) (i j : Nat) (h : j < (begW b i).length) : (begW b i)[j] = wordB (b.take i) j := by simp [begW]
theorem wordB_zero (j : Nat) : wordB [] j = 0 := by simp [wordB]
theorem begW_zero (b : List UInt8) : begW b 0 = List.replicate 64 0 := by
  unfold begW
  rw [List.take_zero]
  refine List.eq_replicate_iff.2 ⟨by simp, fun x hx => ?_⟩
  obtain ⟨j, -, rfl⟩ := List.mem_map.1 hx
  exact wordB_zero j
theorem begW_end {b : List UInt8} (h : b.length = 64) : begW b 64 = firstW b ++ List.replicate 48 0 := by
  unfold begW firstW
  rw [List.take_of_length_le (by omega), show 64 = 16 + 48 from rfl, List.range_add, List.map_append]
  congr 1
  refine List.eq_replicate_iff.2 ⟨by simp, fun x hx => ?_⟩
  rw [List.map_map] at hx
  obtain ⟨j, -, rfl⟩ := List.mem_map.1 hx
  show wordB b (16 + j) = 0
  unfold wordB
  have e : ∀ m, 64 ≤ m → b.getD m 0 = 0 := fun m hm => by rw [List.getD_eq_getElem?_getD, List.getElem?_eq_none (by omega)]; rfl
  rw [e _ (by omega), e _ (by omega), e _ (by omega), e _ (by omega)]
  rfl
theorem take_getD (b : List UInt8) (i m : Nat) : (b.take i).getD m 0 = if m < i then b.getD m 0 else 0 := by
  rw [List.getD_eq_getElem?_getD, List.getElem?_take]
  split
  · rw [List.getD_eq_getElem?_getD]
  · rfl
theorem getD_at {b : List UInt8} {i : Nat} (h : i < b.length) : b.getD i 0 = b[i] := by rw [List.getD_eq_getElem?_getD, List.getElem?_eq_getElem h]; rfl
theorem or_add {y s c : Nat} (hc : c < 256) : y * 2 ^ (s + 8) ||| c * 2 ^ s = y * 2 ^ (s + 8) + c * 2 ^ s := by
  have h : c * 2 ^ s < 2 ^ (s + 8) := by
    rw [Nat.pow_add, Nat.mul_comm (2 ^ s)]
    exact Nat.mul_lt_mul_of_pos_right hc (Nat.two_pow_pos s)
  rw [← Nat.shiftLeft_eq, Nat.shiftLeft_add_eq_or_of_lt h]
theorem wordB_other {b : List UInt8} {i j : Nat} (h : j ≠ i / 4) : wordB (b.take (i + 1)) j = wordB (b.take i) j := by
  have e : ∀ m, m ≠ i → (b.take (i + 1)).getD m 0 = (b.take i).getD m 0 := fun m hm => by
    rw [take_getD, take_getD]
    by_cases h1 : m < i
    · rw [if_pos h1, if_pos (by omega)]
    · rw [if_neg h1, if_neg (by omega)]
  unfold wordB
  rw [e _ (by omega), e _ (by omega), e _ (by omega), e _ (by omega)]
theorem wordB_same {b : List UInt8} {i : Nat} (h : i < b.length) : wordB (b.take i) (i / 4) ||| b[i].toNat * 2 ^ (24 - 8 * (i % 4)) = wordB (b.take (i + 1)) (i / 4) := by
  have e : ∀ n m, m < n → (b.take n).getD m 0 = b.getD m 0 := fun n m hm => by rw [take_getD, if_pos hm]
  have z : ∀ n m, ¬ m < n → (b.take n).getD m 0 = 0 := fun n m hm => by rw [take_getD, if_neg hm]
  have hc := UInt8.toNat_lt b[i]
  have hg := getD_at h
  obtain ⟨q, r, hq, hr⟩ : ∃ q r, i = 4 * q + r ∧ r < 4 := ⟨i / 4, i % 4, by omega, by omega⟩
  have hd : i / 4 = q := by omega
  have hm : i % 4 = r := by omega
  rw [hd, hm, ← hg]
  rw [← hg] at hc
  unfold wordB
  rcases (by omega : r = 0 ∨ r = 1 ∨ r = 2 ∨ r = 3) with h0 | h0 | h0 | h0
  · subst h0
    rw [z i _ (by omega), z i _ (by omega), z i _ (by omega), z i _ (by omega), e (i + 1) _ (by omega), z (i + 1) _ (by omega), z (i + 1) _ (by omega), z (i + 1) _ (by omega), show i = 4 * q by omega]
    simp
  · subst h0
    rw [e i _ (by omega), z i _ (by omega), z i _ (by omega), z i _ (by omega), e (i + 1) _ (by omega), e (i + 1) _ (by omega), z (i + 1) _ (by omega), z (i + 1) _ (by omega), show 4 * q + 1 = i by omega]
    have := or_add (y := (b.getD (4 * q) 0).toNat) (s := 16) hc
    simpa using this
  · subst h0
    rw [e i _ (by omega), e i _ (by omega), z i _ (by omega), z i _ (by omega), e (i + 1) _ (by omega), e (i + 1) _ (by omega), e (i + 1) _ (by omega), z (i + 1) _ (by omega), show 4 * q + 2 = i by omega]
    have := or_add (y := (b.getD (4 * q) 0).toNat * 256 + (b.getD (4 * q + 1) 0).toNat) (s := 8) hc
    rw [show ((b.getD (4 * q) 0).toNat * 256 + (b.getD (4 * q + 1) 0).toNat) * 2 ^ (8 + 8) = (b.getD (4 * q) 0).toNat * 16777216 + (b.getD (4 * q + 1) 0).toNat * 65536 by omega] at this
    simpa using this
  · subst h0
    rw [e i _ (by omega), e i _ (by omega), e i _ (by omega), z i _ (by omega), e (i + 1) _ (by omega), e (i + 1) _ (by omega), e (i + 1) _ (by omega), e (i + 1) _ (by omega), show 4 * q + 3 = i by omega]
    have := or_add (y := (b.getD (4 * q) 0).toNat * 65536 + (b.getD (4 * q + 1) 0).toNat * 256 + (b.getD (4 * q + 2) 0).toNat) (s := 0) hc
    rw [show ((b.getD (4 * q) 0).toNat * 65536 + (b.getD (4 * q + 1) 0).toNat * 256 + (b.getD (4 * q + 2) 0).toNat) * 2 ^ (0 + 8) = (b.getD (4 * q) 0).toNat * 16777216 + (b.getD (4 * q + 1) 0).toNat * 65536 + (b.getD (4 * q + 2) 0).toNat * 256 by omega] at this
    simpa using this
theorem begW_set {b : List UInt8} {i : Nat} (h : i < b.length) (_hl : b.length = 64) : (begW b i).set (i / 4) (wordB (b.take i) (i / 4) ||| b[i].toNat * 2 ^ (24 - 8 * (i % 4))) = begW b (i + 1) := by
  rw [wordB_same h]
  apply List.ext_getElem
  · rw [List.length_set, begW_len, begW_len]
  · intro j h1 h2
    rw [begW_at, List.getElem_set]
    split
    · rename_i e; rw [e]
    · rename_i e
      rw [begW_at, wordB_other (fun k => e k.symm)]
theorem getD_nat {ws : List Nat} {i : Nat} (h : i < ws.length) : ws.getD i 0 = ws[i] := by rw [List.getD_eq_getElem?_getD, List.getElem?_eq_getElem h]; rfl
theorem nextW_at {ws : List Nat} {m : Nat} (h : ws.length = m + 16) : nextW ws = (ws[m]'(by omega) + ssA (ws[m + 1]'(by omega)) + ws[m + 9]'(by omega) + ssB (ws[m + 14]'(by omega))) % 4294967296 := by
  unfold nextW
  rw [show ws.length - 16 = m by omega, show ws.length - 15 = m + 1 by omega, show ws.length - 7 = m + 9 by omega, show ws.length - 2 = m + 14 by omega, getD_nat (by omega), getD_nat (by omega), getD_nat (by omega), getD_nat (by omega)]
theorem extW_one {n : Nat} {ws : List Nat} (h : 0 < n) : extW n ws = extW (n - 1) (ws ++ [nextW ws]) := by
  obtain ⟨m, rfl⟩ : ∃ m, n = m + 1 := ⟨n - 1, by omega⟩
  rfl
theorem extW_zero {ws : List Nat} {n : Nat} (h : n = 0) : extW n ws = ws := by subst h; rfl
theorem div_cast (x k : Nat) : (x : Int) / (k : Int) = ((x / k : Nat) : Int) := by rw [Int.natCast_ediv]
theorem xor_nat32 {a b : Nat} (ha : a < 4294967296) (hb : b < 4294967296) : bits BinOp.xor IntKind.u32 (a : Int) (b : Int) = ((a ^^^ b : Nat) : Int) := u32_xor_nat a b ha hb
theorem ssA_val {x : Nat} (h : x < 4294967296) : bits BinOp.xor IntKind.u32 (bits BinOp.xor IntKind.u32 ((rotN 7 x : Nat) : Int) ((rotN 18 x : Nat) : Int)) ((x : Int) / 8) = ((ssA x : Nat) : Int) := by
  have h1 := rotN_lt (n := 7) (by decide) h
  have h2 := rotN_lt (n := 18) (by decide) h
  rw [xor_nat32 h1 h2, show (x : Int) / 8 = ((x / 8 : Nat) : Int) from div_cast x 8, xor_nat32 (xor32 h1 h2) (by omega)]
  rfl
theorem ssB_val {x : Nat} (h : x < 4294967296) : bits BinOp.xor IntKind.u32 (bits BinOp.xor IntKind.u32 ((rotN 17 x : Nat) : Int) ((rotN 19 x : Nat) : Int)) ((x : Int) / 1024) = ((ssB x : Nat) : Int) := by
  have h1 := rotN_lt (n := 17) (by decide) h
  have h2 := rotN_lt (n := 19) (by decide) h
  rw [xor_nat32 h1 h2, show (x : Int) / 1024 = ((x / 1024 : Nat) : Int) from div_cast x 1024, xor_nat32 (xor32 h1 h2) (by omega)]
  rfl
theorem bsA_val {x : Nat} (h : x < 4294967296) : bits BinOp.xor IntKind.u32 (bits BinOp.xor IntKind.u32 ((rotN 2 x : Nat) : Int) ((rotN 13 x : Nat) : Int)) ((rotN 22 x : Nat) : Int) = ((bsA x : Nat) : Int) := by
  have h1 := rotN_lt (n := 2) (by decide) h
  have h2 := rotN_lt (n := 13) (by decide) h
  have h3 := rotN_lt (n := 22) (by decide) h
  rw [xor_nat32 h1 h2, xor_nat32 (xor32 h1 h2) h3]
  rfl
theorem bsE_val {x : Nat} (h : x < 4294967296) : bits BinOp.xor IntKind.u32 (bits BinOp.xor IntKind.u32 ((rotN 6 x : Nat) : Int) ((rotN 11 x : Nat) : Int)) ((rotN 25 x : Nat) : Int) = ((bsE x : Nat) : Int) := by
  have h1 := rotN_lt (n := 6) (by decide) h
  have h2 := rotN_lt (n := 11) (by decide) h
  have h3 := rotN_lt (n := 25) (by decide) h
  rw [xor_nat32 h1 h2, xor_nat32 (xor32 h1 h2) h3]
  rfl
theorem chP_val {e f g : Nat} (he : e < 4294967296) (hf : f < 4294967296) (hg : g < 4294967296) : bits BinOp.xor IntKind.u32 (g : Int) (bits BinOp.and IntKind.u32 (e : Int) (bits BinOp.xor IntKind.u32 (f : Int) (g : Int))) = ((chN e f g : Nat) : Int) := by
  rw [xor_nat32 hf hg, u32_and_nat _ _ he (xor32 hf hg), xor_nat32 hg (and32 (xor32 hf hg)), ch_alt he hg]
theorem majP_val {a b c : Nat} (ha : a < 4294967296) (hb : b < 4294967296) (hc : c < 4294967296) : bits BinOp.or IntKind.u32 (bits BinOp.and IntKind.u32 (a : Int) (b : Int)) (bits BinOp.and IntKind.u32 (c : Int) (bits BinOp.or IntKind.u32 (a : Int) (b : Int))) = ((majN a b c : Nat) : Int) := by
  rw [u32_and_nat _ _ ha hb, u32_or_nat _ _ ha hb, u32_and_nat _ _ hc (or32 ha hb), u32_or_nat _ _ (and32 hb) (and32 (or32 ha hb)), maj_alt]
theorem stepH_a {a b c d e f g h k w : Nat} : ((((h : Int) + (bsE e : Nat) + (chN e f g : Nat) + k + w) % 4294967296 + (((bsA a : Nat) : Int) + (majN a b c : Nat)) % 4294967296) % 4294967296) = (((stepH ⟨a, b, c, d, e, f, g, h⟩ k w).a : Nat) : Int) := by
  simp only [stepH, tSha]
  omega
theorem stepH_e {a b c d e f g h k w : Nat} : (((d : Int) + ((h : Int) + (bsE e : Nat) + (chN e f g : Nat) + k + w) % 4294967296) % 4294967296) = (((stepH ⟨a, b, c, d, e, f, g, h⟩ k w).e : Nat) : Int) := by
  simp only [stepH, tSha]
  omega
theorem mix_set {α : Type} {A H : List α} {k : Nat} (hk : k < A.length) (hl : A.length = H.length) : (A.take k ++ H.drop k).set k A[k] = A.take (k + 1) ++ H.drop (k + 1) := by
  rw [List.set_append_right _ _ (by rw [List.length_take]; omega), List.length_take, Nat.min_eq_left (by omega), Nat.sub_self, List.drop_eq_getElem_cons (by omega), List.set_cons_zero, List.take_succ_eq_append_getElem hk, List.append_assoc]
  rfl
theorem mix_at {α : Type} {A H : List α} {k : Nat} (hk : k < H.length) (hl : A.length = H.length) : (A.take k ++ H.drop k)[k]? = some H[k] := by
  rw [List.getElem?_append_right (by rw [List.length_take]; omega), List.length_take, Nat.min_eq_left (by omega), Nat.sub_self, List.getElem?_drop, Nat.add_zero, List.getElem?_eq_getElem hk]
theorem addH_at (x y : H8) {k : Nat} (hk : k < 8) : (addH x y).words[k]'hk = (x.words[k]'hk + y.words[k]'hk) % 4294967296 := by
  match k, hk with
  | 0, _ => rfl
  | 1, _ => rfl
  | 2, _ => rfl
  | 3, _ => rfl
  | 4, _ => rfl
  | 5, _ => rfl
  | 6, _ => rfl
  | 7, _ => rfl
theorem ofNat_nat (n : Nat) : (UInt8.ofNat n).toNat = n % 256 := by rw [UInt8.toNat_ofNat']
theorem bytes8_at (n i : Nat) (h : i < (bytes8 n).length) : ((bytes8 n)[i]'h).toNat = n / 2 ^ (56 - 8 * i) % 256 := by
  have h8 : i < 8 := h
  match i, h8 with
  | 0, _ => exact ofNat_nat _
  | 1, _ => exact ofNat_nat _
  | 2, _ => exact ofNat_nat _
  | 3, _ => exact ofNat_nat _
  | 4, _ => exact ofNat_nat _
  | 5, _ => exact ofNat_nat _
  | 6, _ => exact ofNat_nat _
  | 7, _ => rw [show n / 2 ^ (56 - 8 * 7) = n by simp]; exact ofNat_nat _
theorem wordBytes_len (x : Nat) : (wordBytes x).length = 4 := rfl
theorem wordBytes_flat : ∀ l : List Nat, (l.flatMap wordBytes).length = 4 * l.length
  | [] => rfl
  | x :: l => by rw [List.flatMap_cons, List.length_append, wordBytes_flat l, wordBytes_len, List.length_cons]; omega
theorem flat_snoc {l : List Nat} {k : Nat} (h : k < l.length) : (l.take (k + 1)).flatMap wordBytes = (l.take k).flatMap wordBytes ++ wordBytes l[k] := by
  rw [List.take_succ_eq_append_getElem h, List.flatMap_append]; simp
theorem shl_cast {c s : Nat} (hc : c < 256) (hs : s ≤ 24) : (c : Int) % 4294967296 * 2 ^ s % 4294967296 = ((c * 2 ^ s : Nat) : Int) := by
  have h2 : c * 2 ^ s < 4294967296 := by
    have : 2 ^ s ≤ 2 ^ 24 := Nat.pow_le_pow_right (by decide) hs
    calc c * 2 ^ s ≤ 255 * 2 ^ 24 := Nat.mul_le_mul (by omega) this
      _ < 4294967296 := by decide
  rw [show (c : Int) % 4294967296 = (c : Int) by omega, cast_lo, Nat.mod_eq_of_lt h2]
theorem word_or {a b c d : Nat} (ha : a < 256) (hb : b < 256) (hc : c < 256) (hd : d < 256) :
    bits BinOp.or IntKind.u32 (bits BinOp.or IntKind.u32 (bits BinOp.or IntKind.u32 ((a * 16777216 : Nat) : Int) ((b * 65536 : Nat) : Int)) ((c * 256 : Nat) : Int)) (d : Int) = ((a * 16777216 + b * 65536 + c * 256 + d : Nat) : Int) := by
  have e1 : a * 16777216 ||| b * 65536 = a * 16777216 + b * 65536 := or_add (y := a) (s := 16) (c := b) hb
  have e2 : (a * 16777216 + b * 65536) ||| c * 256 = a * 16777216 + b * 65536 + c * 256 := by
    have := or_add (y := a * 256 + b) (s := 8) (c := c) hc
    rw [show (a * 256 + b) * 2 ^ (8 + 8) = a * 16777216 + b * 65536 by omega] at this
    simpa using this
  have e3 : (a * 16777216 + b * 65536 + c * 256) ||| d = a * 16777216 + b * 65536 + c * 256 + d := by
    have := or_add (y := a * 65536 + b * 256 + c) (s := 0) (c := d) hd
    rw [show (a * 65536 + b * 256 + c) * 2 ^ (0 + 8) = a * 16777216 + b * 65536 + c * 256 by omega] at this
    simpa using this
  rw [u32_or_nat _ _ (by omega) (by omega), e1, u32_or_nat _ _ (by omega) (by omega), e2, u32_or_nat _ _ (by omega) (by omega), e3]
theorem firstW_len (b : List UInt8) : (firstW b).length = 16 := by simp [firstW]
theorem firstW_at {b : List UInt8} {k : Nat} (h : k < (firstW b).length) : (firstW b)[k] = wordB b k := by simp [firstW]
theorem wordB_at {b : List UInt8} {k : Nat} (h : 4 * k + 3 < b.length) : wordB b k = (b[4 * k]'(by omega)).toNat * 16777216 + (b[4 * k + 1]'(by omega)).toNat * 65536 + (b[4 * k + 2]'(by omega)).toNat * 256 + (b[4 * k + 3]'h).toNat := by
  unfold wordB
  rw [getD_at (by omega), getD_at (by omega), getD_at (by omega), getD_at h]
theorem chR_val {e f g : Nat} (he : e < 4294967296) (hf : f < 4294967296) (hg : g < 4294967296) : bits BinOp.xor IntKind.u32 (bits BinOp.and IntKind.u32 (e : Int) (f : Int)) (bits BinOp.and IntKind.u32 (4294967295 - (e : Int)) (g : Int)) = ((chN e f g : Nat) : Int) := by
  rw [u32_and_nat _ _ he hf, show (4294967295 - (e : Int)) = ((4294967295 - e : Nat) : Int) by omega, u32_and_nat _ _ (by omega) hg, xor_nat32 (and32 hf) (and32 hg)]
  rfl
theorem majR_val {a b c : Nat} (ha : a < 4294967296) (hb : b < 4294967296) (hc : c < 4294967296) : bits BinOp.xor IntKind.u32 (bits BinOp.xor IntKind.u32 (bits BinOp.and IntKind.u32 (a : Int) (b : Int)) (bits BinOp.and IntKind.u32 (a : Int) (c : Int))) (bits BinOp.and IntKind.u32 (b : Int) (c : Int)) = ((majN a b c : Nat) : Int) := by
  rw [u32_and_nat _ _ ha hb, u32_and_nat _ _ ha hc, u32_and_nat _ _ hb hc, xor_nat32 (and32 hb) (and32 hc), xor_nat32 (xor32 (and32 hb) (and32 hc)) (and32 hc)]
  rfl
theorem padS_64 (l : List UInt8) : (padS l).length % 64 = 0 := by
  have h1 := padZ_len l
  have h2 := padS_len l
  omega
theorem blk_len {l : List UInt8} {k : Nat} (h : 64 * k < l.length) (h0 : l.length % 64 = 0) : ((l.drop (64 * k)).take 64).length = 64 := by
  rw [List.length_take, List.length_drop]; omega
theorem blk_at {l : List UInt8} {k j : Nat} (hj : j < 64) (h : 64 * k + j < l.length) : ((l.drop (64 * k)).take 64)[j]? = some l[64 * k + j] := by
  rw [List.getElem?_take, if_pos hj, List.getElem?_drop, List.getElem?_eq_getElem h]
theorem take_snoc' {l : List UInt8} {k : Nat} {c : UInt8} (h : l[k]? = some c) : l.take (k + 1) = l.take k ++ [c] := by
  obtain ⟨hk, he⟩ := List.getElem?_eq_some_iff.1 h
  rw [List.take_succ_eq_append_getElem hk, he]
end Go.Proofs.YtaompdnnkfmjhaaGreatDoor
