/- The reference's answers on nodes: Fit, Same. -/
import Derived.Test.YtengciicdnkgaaaGreatDoorR11
namespace Go.Proofs.YtengciicdnkgaaaGreatDoor
open Go.RowKit

/-- What Fit says, case by case. -/
theorem fitN_one {d : List UInt8} {ps : List Prt} {es : List Ent} : fitN ⟨1, d, ps, es⟩ = (decide (1 ≤ d.length) && (decide (d.length ≤ 4096) && (ps.length == 0 && es.length == 0))) := by
  rw [Bool.eq_iff_iff, fitN_iff]
  simp only [Bool.and_eq_true, decide_eq_true_eq, beq_iff_eq]
  constructor
  · rintro (⟨_, h2, h3, h4, h5⟩ | ⟨h, _⟩ | ⟨h, _⟩)
    · simp only at h2 h3 h4 h5
      exact ⟨List.length_pos_iff.2 h2, h3, by rw [h4]; rfl, by rw [h5]; rfl⟩
    · cases h
    · cases h
  · rintro ⟨h1, h2, h3, h4⟩
    exact .inl ⟨rfl, List.length_pos_iff.1 h1, h2, List.eq_nil_of_length_eq_zero h3, List.eq_nil_of_length_eq_zero h4⟩
theorem fitN_two {d : List UInt8} {ps : List Prt} {es : List Ent} : fitN ⟨2, d, ps, es⟩ = (d == [] && (es.length == 0 && (decide (ps.length ≤ 1024) && fileB ps))) := by
  rw [Bool.eq_iff_iff, fitN_iff]
  simp only [Bool.and_eq_true, decide_eq_true_eq, beq_iff_eq, fileB, List.all_eq_true]
  constructor
  · rintro (⟨h, _⟩ | ⟨_, h2, h3, h4⟩ | ⟨h, _⟩)
    · cases h
    · simp only at h2 h3 h4
      exact ⟨h2, by rw [h3]; rfl, h4.len, h4.ok, h4.whole⟩
    · cases h
  · rintro ⟨h1, h2, h3, h4, h5⟩
    exact .inr (.inl ⟨rfl, h1, List.eq_nil_of_length_eq_zero h2, h3, h4, h5⟩)
theorem fitN_three {d : List UInt8} {ps : List Prt} {es : List Ent} : fitN ⟨3, d, ps, es⟩ = (d == [] && (ps.length == 0 && (decide (es.length ≤ 60) && dirB es))) := by
  rw [Bool.eq_iff_iff, fitN_iff]
  simp only [Bool.and_eq_true, decide_eq_true_eq, beq_iff_eq, dirB_iff]
  constructor
  · rintro (⟨h, _⟩ | ⟨h, _⟩ | ⟨_, h2, h3, h4⟩)
    · cases h
    · cases h
    · simp only at h2 h3 h4
      exact ⟨h2, by rw [h3]; rfl, h4.len, h4.ok, h4.rises⟩
  · rintro ⟨h1, h2, h3, h4, h5⟩
    exact .inr (.inr ⟨rfl, h1, List.eq_nil_of_length_eq_zero h2, h3, h4, h5⟩)
theorem fitN_else {k : Int} {d : List UInt8} {ps : List Prt} {es : List Ent} (h1 : k ≠ 1) (h2 : k ≠ 2) (h3 : k ≠ 3) : fitN ⟨k, d, ps, es⟩ = false := by
  refine fitN_no ?_
  rintro (⟨h, _⟩ | ⟨h, _⟩ | ⟨h, _⟩)
  · exact h1 h
  · exact h2 h
  · exact h3 h

set_option maxHeartbeats 4000000 in
set_option maxRecDepth 100000 in
theorem rfit11_walk (vp ve : Value) (n : Nod) (w : World) (hr : NodRow w n vp ve) (hd : n.data.length ≤ 1100000) (hp : n.parts.length ≤ 1100000) (he : n.ents.length ≤ 1100000) (hnl : ∀ e ∈ n.ents, e.1.length ≤ 1100000) :
    Calls Tryz.prog 54 #[NodV n vp ve] w fun e w' => e = .returned (.bool (fitN n)) ∧ Below w.heap.size w w' := by
  obtain ⟨kd, d, ps, es⟩ := n
  simp only at hd hp he hnl
  obtain ⟨w1, hw1, hB1, hz⟩ : ∃ w1, w1 = w.alloc (.cells #[.int .i64 kd, S d, vp, ve] 54) ∧ Below w.heap.size w w1 ∧ w1.heap[w.heap.size]? = some (.cells #[.int .i64 kd, S d, vp, ve] 54 (0, 0)) :=
    ⟨_, rfl, (Below.refl _ _).alloc (Nat.le_refl _) _, heap_alloc_new _ _⟩
  have hr1 := hr.below hB1
  have CF := fun h => rfile11_walk vp ps w1 hr1.parts h
  have CD := fun h => rdir11_walk ve es w1 hr1.ents h hnl
  obtain ⟨⟨z0, z1, z2, z3⟩, -, -⟩ := box4 hz
  obtain ⟨a1, c1, rfl⟩ := row_slice hr.parts
  obtain ⟨a2, c2, rfl⟩ := row_slice hr.ents
  clear hr hr1 hz hnl
  by_cases k1 : kd = 1
  · subst k1
    have HF := Lib.hid (fitN_one (d := d) (ps := ps) (es := es))
    generalize fitN ⟨1, d, ps, es⟩ = res at *
    obtain ⟨q1, e1⟩ : ∃ q, decide ((1 : Int) ≤ (d.length : Int)) = q := ⟨_, rfl⟩
    obtain ⟨q2, e2⟩ : ∃ q, decide ((d.length : Int) ≤ 4096) = q := ⟨_, rfl⟩
    obtain ⟨q3, e3⟩ : ∃ q, ((ps.length : Int) == 0) = q := ⟨_, rfl⟩
    obtain ⟨q4, e4⟩ : ∃ q, ((es.length : Int) == 0) = q := ⟨_, rfl⟩
    have HG := Lib.hid (show res = (q1 && (q2 && (q3 && q4))) by
      rw [HF.out, ← e1, ← e2, ← e3, ← e4]
      congr 1
      · rw [decide_eq_decide]; omega
      · congr 1
        · rw [decide_eq_decide]; omega
        · congr 1
          · rw [Bool.eq_iff_iff, beq_iff_eq, beq_iff_eq]; omega
          · rw [Bool.eq_iff_iff, beq_iff_eq, beq_iff_eq]; omega)
    clear HF CF CD
    cases q1 <;> cases q2 <;> cases q3 <;> cases q4
    all_goals
      go_enter Tryz.func54, Tryz.ntmps54
      go_upto_region 1 with fail
      rw [← hw1]
      clear hw1
      go_wp2
      go_ret
      exact ⟨by rw [HG.out]; rfl, hB1⟩
  by_cases k2 : kd = 2
  · subst k2
    have HF := Lib.hid (fitN_two (d := d) (ps := ps) (es := es))
    generalize fitN ⟨2, d, ps, es⟩ = res at *
    generalize fileB ps = fb at *
    clear CD k1
    cases q1 : (d == []) with
    | false =>
      have HG := Lib.hid (show res = false by rw [HF.out, q1]; rfl)
      go_enter Tryz.func54, Tryz.ntmps54
      go_upto_region 1 with fail
      rw [← hw1]
      clear hw1
      go_wp2
      go_ret
      exact ⟨by rw [HG.out]; rfl, hB1⟩
    | true =>
    by_cases q2 : es.length = 0
    · have q2' : ((es.length : Int) == 0) = true := by rw [beq_iff_eq]; omega
      by_cases q3 : ps.length ≤ 1024
      · have q3' : (ps.length : Int) ≤ 1024 := by omega
        have q3d : decide ((ps.length : Int) ≤ 1024) = true := decide_eq_true q3'
        have HG := Lib.hid (show res = fb by rw [HF.out, q1, decide_eq_true q3]; simp [q2])
        have C := CF (by omega)
        clear HF CF q2 q3
        go_enter Tryz.func54, Tryz.ntmps54
        go_upto_region 1 with fail
        rw [← hw1]
        clear hw1
        go_wp2_with (go_at_call 69; refine (C).mono ?_; rintro e w2 ⟨rfl, hb2⟩)
        go_ret
        exact ⟨by rw [HG.out]; rfl, below_chain hB1 hb2 hB1.size⟩
      · have q3' : ¬ (ps.length : Int) ≤ 1024 := by omega
        have q3d : decide ((ps.length : Int) ≤ 1024) = false := decide_eq_false q3'
        have HG := Lib.hid (show res = false by rw [HF.out, q1, decide_eq_false q3]; simp)
        clear HF CF q2 q3
        go_enter Tryz.func54, Tryz.ntmps54
        go_upto_region 1 with fail
        rw [← hw1]
        clear hw1
        go_wp2
        go_ret
        exact ⟨by rw [HG.out]; rfl, hB1⟩
    · have q2' : ((es.length : Int) == 0) = false := by rw [beq_eq_false_iff_ne]; omega
      have HG := Lib.hid (show res = false by rw [HF.out, q1]; simp [q2])
      clear HF CF q2
      go_enter Tryz.func54, Tryz.ntmps54
      go_upto_region 1 with fail
      rw [← hw1]
      clear hw1
      go_wp2
      go_ret
      exact ⟨by rw [HG.out]; rfl, hB1⟩
  by_cases k3 : kd = 3
  · subst k3
    have HF := Lib.hid (fitN_three (d := d) (ps := ps) (es := es))
    generalize fitN ⟨3, d, ps, es⟩ = res at *
    generalize dirB es = fb at *
    clear CF k1 k2
    cases q1 : (d == []) with
    | false =>
      have HG := Lib.hid (show res = false by rw [HF.out, q1]; rfl)
      go_enter Tryz.func54, Tryz.ntmps54
      go_upto_region 1 with fail
      rw [← hw1]
      clear hw1
      go_wp2
      go_ret
      exact ⟨by rw [HG.out]; rfl, hB1⟩
    | true =>
    by_cases q2 : ps.length = 0
    · have q2' : ((ps.length : Int) == 0) = true := by rw [beq_iff_eq]; omega
      by_cases q3 : es.length ≤ 60
      · have q3' : (es.length : Int) ≤ 60 := by omega
        have q3d : decide ((es.length : Int) ≤ 60) = true := decide_eq_true q3'
        have HG := Lib.hid (show res = fb by rw [HF.out, q1, decide_eq_true q3]; simp [q2])
        have C := CD (by omega)
        clear HF CD q2 q3
        go_enter Tryz.func54, Tryz.ntmps54
        go_upto_region 1 with fail
        rw [← hw1]
        clear hw1
        go_wp2_with (go_at_call 70; refine (C).mono ?_; rintro e w2 ⟨rfl, hb2⟩)
        go_ret
        exact ⟨by rw [HG.out]; rfl, below_chain hB1 hb2 hB1.size⟩
      · have q3' : ¬ (es.length : Int) ≤ 60 := by omega
        have q3d : decide ((es.length : Int) ≤ 60) = false := decide_eq_false q3'
        have HG := Lib.hid (show res = false by rw [HF.out, q1, decide_eq_false q3]; simp)
        clear HF CD q2 q3
        go_enter Tryz.func54, Tryz.ntmps54
        go_upto_region 1 with fail
        rw [← hw1]
        clear hw1
        go_wp2
        go_ret
        exact ⟨by rw [HG.out]; rfl, hB1⟩
    · have q2' : ((ps.length : Int) == 0) = false := by rw [beq_eq_false_iff_ne]; omega
      have HG := Lib.hid (show res = false by rw [HF.out, q1]; simp [q2])
      clear HF CD q2
      go_enter Tryz.func54, Tryz.ntmps54
      go_upto_region 1 with fail
      rw [← hw1]
      clear hw1
      go_wp2
      go_ret
      exact ⟨by rw [HG.out]; rfl, hB1⟩
  have HG := Lib.hid (fitN_else (d := d) (ps := ps) (es := es) k1 k2 k3)
  generalize fitN ⟨kd, d, ps, es⟩ = res at *
  have k1' : (kd == 1) = false := by rw [beq_eq_false_iff_ne]; exact k1
  have k2' : (kd == 2) = false := by rw [beq_eq_false_iff_ne]; exact k2
  have k3' : (kd == 3) = false := by rw [beq_eq_false_iff_ne]; exact k3
  clear CF CD k1 k2 k3
  go_enter Tryz.func54, Tryz.ntmps54
  go_upto_region 1 with fail
  rw [← hw1]
  clear hw1
  go_wp2
  go_ret
  exact ⟨by rw [HG.out]; rfl, hB1⟩
end Go.Proofs.YtengciicdnkgaaaGreatDoor
