/- The reference's answers on nodes: Fit, Same. Rows of bytes as texts. Texts, one behind the other. The reference's numbers written as bytes. Regions that draw their order: loads of cells that stay are taken first; then the calls, one by one. -/
import Derived.Test.YtkejdbidomlonaaGreatDoorJNodeFit
import Derived.Test.YtkejdbidomlonaaGreatDoorJPlain
import Derived.Test.YtkejdbidomlonaaGreatDoorJSnpPlain
import Derived.OrdersHeld
import Derived.RegionTactic
namespace Go.Proofs.YtkejdbidomlonaaGreatDoor
open Go.RowKit

/-- What Fit says, case by case. -/
theorem fitN_one {d : List UInt8} {ps : List Prt} {es : List Ent} : fitN ⟨1, d, ps, es⟩ = (decide (1 ≤ d.length) && (decide (d.length ≤ 4096) && (ps.length == 0 && es.length == 0))) := by
  rw [Bool.eq_iff_iff, fitN_iff]
  simp only [Bool.and_eq_true, decide_eq_true_eq, beq_iff_eq]
  constructor
  · rintro (⟨_, h2, h3, h4, h5⟩ | ⟨h, _⟩ | ⟨h, _⟩)
    · simp only at h2 h3 h4 h5
      exact ⟨List.length_pos_iff.2 h2, h3, by rw [h4]; rfl, by rw [h5]; rfl⟩
    · cases h
    · cases h
  · rintro ⟨h1, h2, h3, h4⟩
    exact .inl ⟨rfl, List.length_pos_iff.1 h1, h2, List.eq_nil_of_length_eq_zero h3, List.eq_nil_of_length_eq_zero h4⟩
theorem fitN_two {d : List UInt8} {ps : List Prt} {es : List Ent} : fitN ⟨2, d, ps, es⟩ = (d == [] && (es.length == 0 && (decide (ps.length ≤ 1024) && fileB ps))) := by
  rw [Bool.eq_iff_iff, fitN_iff]
  simp only [Bool.and_eq_true, decide_eq_true_eq, beq_iff_eq, fileB, List.all_eq_true]
  constructor
  · rintro (⟨h, _⟩ | ⟨_, h2, h3, h4⟩ | ⟨h, _⟩)
    · cases h
    · simp only at h2 h3 h4
      exact ⟨h2, by rw [h3]; rfl, h4.len, h4.ok, h4.whole⟩
    · cases h
  · rintro ⟨h1, h2, h3, h4, h5⟩
    exact .inr (.inl ⟨rfl, h1, List.eq_nil_of_length_eq_zero h2, h3, h4, h5⟩)
theorem fitN_three {d : List UInt8} {ps : List Prt} {es : List Ent} : fitN ⟨3, d, ps, es⟩ = (d == [] && (ps.length == 0 && (decide (es.length ≤ 60) && dirB es))) := by
  rw [Bool.eq_iff_iff, fitN_iff]
  simp only [Bool.and_eq_true, decide_eq_true_eq, beq_iff_eq, dirB_iff]
  constructor
  · rintro (⟨h, _⟩ | ⟨h, _⟩ | ⟨_, h2, h3, h4⟩)
    · cases h
    · cases h
    · simp only at h2 h3 h4
      exact ⟨h2, by rw [h3]; rfl, h4.len, h4.ok, h4.rises⟩
  · rintro ⟨h1, h2, h3, h4, h5⟩
    exact .inr (.inr ⟨rfl, h1, List.eq_nil_of_length_eq_zero h2, h3, h4, h5⟩)
theorem fitN_else {k : Int} {d : List UInt8} {ps : List Prt} {es : List Ent} (h1 : k ≠ 1) (h2 : k ≠ 2) (h3 : k ≠ 3) : fitN ⟨k, d, ps, es⟩ = false := by
  refine fitN_no ?_
  rintro (⟨h, _⟩ | ⟨h, _⟩ | ⟨h, _⟩)
  · exact h1 h
  · exact h2 h
  · exact h3 h

set_option maxHeartbeats 4000000 in
set_option maxRecDepth 100000 in
theorem rfit11_walk (vp ve : Value) (n : Nod) (w : World) (hr : NodRow w n vp ve) (hd : n.data.length ≤ 1100000) (hp : n.parts.length ≤ 1100000) (he : n.ents.length ≤ 1100000) (hnl : ∀ e ∈ n.ents, e.1.length ≤ 1100000) :
    Calls Tryz.prog 77 #[NodV n vp ve] w fun e w' => e = .returned (.bool (fitN n)) ∧ Below w.heap.size w w' := by
  obtain ⟨kd, d, ps, es⟩ := n
  simp only at hd hp he hnl
  obtain ⟨w1, hw1, hB1, hz⟩ : ∃ w1, w1 = w.alloc (.cells #[.int .i64 kd, S d, vp, ve] 77) ∧ Below w.heap.size w w1 ∧ w1.heap[w.heap.size]? = some (.cells #[.int .i64 kd, S d, vp, ve] 77 (0, 0)) :=
    ⟨_, rfl, (Below.refl _ _).alloc (Nat.le_refl _) _, heap_alloc_new _ _⟩
  have hr1 := hr.below hB1
  have CF := fun h => rfile11_walk vp ps w1 hr1.parts h
  have CD := fun h => rdir11_walk ve es w1 hr1.ents h hnl
  obtain ⟨⟨z0, z1, z2, z3⟩, -, -⟩ := box4 hz
  obtain ⟨a1, c1, rfl⟩ := row_slice hr.parts
  obtain ⟨a2, c2, rfl⟩ := row_slice hr.ents
  clear hr hr1 hz hnl
  by_cases k1 : kd = 1
  · subst k1
    have HF := Lib.hid (fitN_one (d := d) (ps := ps) (es := es))
    generalize fitN ⟨1, d, ps, es⟩ = res at *
    obtain ⟨q1, e1⟩ : ∃ q, decide ((1 : Int) ≤ (d.length : Int)) = q := ⟨_, rfl⟩
    obtain ⟨q2, e2⟩ : ∃ q, decide ((d.length : Int) ≤ 4096) = q := ⟨_, rfl⟩
    obtain ⟨q3, e3⟩ : ∃ q, ((ps.length : Int) == 0) = q := ⟨_, rfl⟩
    obtain ⟨q4, e4⟩ : ∃ q, ((es.length : Int) == 0) = q := ⟨_, rfl⟩
    have HG := Lib.hid (show res = (q1 && (q2 && (q3 && q4))) by
      rw [HF.out, ← e1, ← e2, ← e3, ← e4]
      congr 1
      · rw [decide_eq_decide]; omega
      · congr 1
        · rw [decide_eq_decide]; omega
        · congr 1
          · rw [Bool.eq_iff_iff, beq_iff_eq, beq_iff_eq]; omega
          · rw [Bool.eq_iff_iff, beq_iff_eq, beq_iff_eq]; omega)
    clear HF CF CD
    cases q1 <;> cases q2 <;> cases q3 <;> cases q4
    all_goals
      go_enter Tryz.func77, Tryz.ntmps77
      go_upto_region 1 with fail
      rw [← hw1]
      clear hw1
      go_wp2
      go_ret
      exact ⟨by rw [HG.out]; rfl, hB1⟩
  by_cases k2 : kd = 2
  · subst k2
    have HF := Lib.hid (fitN_two (d := d) (ps := ps) (es := es))
    generalize fitN ⟨2, d, ps, es⟩ = res at *
    generalize fileB ps = fb at *
    clear CD k1
    cases q1 : (d == []) with
    | false =>
      have HG := Lib.hid (show res = false by rw [HF.out, q1]; rfl)
      go_enter Tryz.func77, Tryz.ntmps77
      go_upto_region 1 with fail
      rw [← hw1]
      clear hw1
      go_wp2
      go_ret
      exact ⟨by rw [HG.out]; rfl, hB1⟩
    | true =>
    by_cases q2 : es.length = 0
    · have q2' : ((es.length : Int) == 0) = true := by rw [beq_iff_eq]; omega
      by_cases q3 : ps.length ≤ 1024
      · have q3' : (ps.length : Int) ≤ 1024 := by omega
        have q3d : decide ((ps.length : Int) ≤ 1024) = true := decide_eq_true q3'
        have HG := Lib.hid (show res = fb by rw [HF.out, q1, decide_eq_true q3]; simp [q2])
        have C := CF (by omega)
        clear HF CF q2 q3
        go_enter Tryz.func77, Tryz.ntmps77
        go_upto_region 1 with fail
        rw [← hw1]
        clear hw1
        go_wp2_with (go_at_call 97; refine (C).mono ?_; rintro e w2 ⟨rfl, hb2⟩)
        go_ret
        exact ⟨by rw [HG.out]; rfl, below_chain hB1 hb2 hB1.size⟩
      · have q3' : ¬ (ps.length : Int) ≤ 1024 := by omega
        have q3d : decide ((ps.length : Int) ≤ 1024) = false := decide_eq_false q3'
        have HG := Lib.hid (show res = false by rw [HF.out, q1, decide_eq_false q3]; simp)
        clear HF CF q2 q3
        go_enter Tryz.func77, Tryz.ntmps77
        go_upto_region 1 with fail
        rw [← hw1]
        clear hw1
        go_wp2
        go_ret
        exact ⟨by rw [HG.out]; rfl, hB1⟩
    · have q2' : ((es.length : Int) == 0) = false := by rw [beq_eq_false_iff_ne]; omega
      have HG := Lib.hid (show res = false by rw [HF.out, q1]; simp [q2])
      clear HF CF q2
      go_enter Tryz.func77, Tryz.ntmps77
      go_upto_region 1 with fail
      rw [← hw1]
      clear hw1
      go_wp2
      go_ret
      exact ⟨by rw [HG.out]; rfl, hB1⟩
  by_cases k3 : kd = 3
  · subst k3
    have HF := Lib.hid (fitN_three (d := d) (ps := ps) (es := es))
    generalize fitN ⟨3, d, ps, es⟩ = res at *
    generalize dirB es = fb at *
    clear CF k1 k2
    cases q1 : (d == []) with
    | false =>
      have HG := Lib.hid (show res = false by rw [HF.out, q1]; rfl)
      go_enter Tryz.func77, Tryz.ntmps77
      go_upto_region 1 with fail
      rw [← hw1]
      clear hw1
      go_wp2
      go_ret
      exact ⟨by rw [HG.out]; rfl, hB1⟩
    | true =>
    by_cases q2 : ps.length = 0
    · have q2' : ((ps.length : Int) == 0) = true := by rw [beq_iff_eq]; omega
      by_cases q3 : es.length ≤ 60
      · have q3' : (es.length : Int) ≤ 60 := by omega
        have q3d : decide ((es.length : Int) ≤ 60) = true := decide_eq_true q3'
        have HG := Lib.hid (show res = fb by rw [HF.out, q1, decide_eq_true q3]; simp [q2])
        have C := CD (by omega)
        clear HF CD q2 q3
        go_enter Tryz.func77, Tryz.ntmps77
        go_upto_region 1 with fail
        rw [← hw1]
        clear hw1
        go_wp2_with (go_at_call 98; refine (C).mono ?_; rintro e w2 ⟨rfl, hb2⟩)
        go_ret
        exact ⟨by rw [HG.out]; rfl, below_chain hB1 hb2 hB1.size⟩
      · have q3' : ¬ (es.length : Int) ≤ 60 := by omega
        have q3d : decide ((es.length : Int) ≤ 60) = false := decide_eq_false q3'
        have HG := Lib.hid (show res = false by rw [HF.out, q1, decide_eq_false q3]; simp)
        clear HF CD q2 q3
        go_enter Tryz.func77, Tryz.ntmps77
        go_upto_region 1 with fail
        rw [← hw1]
        clear hw1
        go_wp2
        go_ret
        exact ⟨by rw [HG.out]; rfl, hB1⟩
    · have q2' : ((ps.length : Int) == 0) = false := by rw [beq_eq_false_iff_ne]; omega
      have HG := Lib.hid (show res = false by rw [HF.out, q1]; simp [q2])
      clear HF CD q2
      go_enter Tryz.func77, Tryz.ntmps77
      go_upto_region 1 with fail
      rw [← hw1]
      clear hw1
      go_wp2
      go_ret
      exact ⟨by rw [HG.out]; rfl, hB1⟩
  have HG := Lib.hid (fitN_else (d := d) (ps := ps) (es := es) k1 k2 k3)
  generalize fitN ⟨kd, d, ps, es⟩ = res at *
  have k1' : (kd == 1) = false := by rw [beq_eq_false_iff_ne]; exact k1
  have k2' : (kd == 2) = false := by rw [beq_eq_false_iff_ne]; exact k2
  have k3' : (kd == 3) = false := by rw [beq_eq_false_iff_ne]; exact k3
  clear CF CD k1 k2 k3
  go_enter Tryz.func77, Tryz.ntmps77
  go_upto_region 1 with fail
  rw [← hw1]
  clear hw1
  go_wp2
  go_ret
  exact ⟨by rw [HG.out]; rfl, hB1⟩
end Go.Proofs.YtkejdbidomlonaaGreatDoor

namespace Go.Proofs.YtkejdbidomlonaaGreatDoor
open Go.RowKit

theorem infoByte : (Tryz.prog.info? 5).map (fun i => (i.zero, i.size, i.bytes)) = some (some (.int .u8 0), 1, 1) := by kernel_rfl

/-- A row of bytes that the call made, as a text. -/
theorem bytes_back {W : World} {base : Nat} {v : Value} {l : List UInt8} (h : W.ownsRow base 5 1 v l.length (Lib.byteCells l)) : (convert 89 9 v).run Tryz.prog W = .ok (.string ⟨l.toArray⟩) W := by
  obtain ⟨_, h⟩ := h
  rcases h with ⟨rfl, hn⟩ | ⟨g, cap, cur, rfl, _, hh, hc, hm, hs, ht⟩
  · have : l = [] := List.length_eq_zero_iff.1 hn
    subst this
    exact run_convert_bytes_nil W 89 5 Tryz.underlying89 Tryz.underlying5 0 0 9 Tryz.underlying9
  · refine run_convert_bytes_back W _ _ 5 _ _ l Tryz.underlying89 Tryz.underlying5 Tryz.underlying9 fun j hj => ?_
    have h1 : cur.toList[j]? = some (.int .u8 (l[j].toNat : Int)) := by
      have : (cur.toList.take (l.length * 1))[j]? = some (.int .u8 (l[j].toNat : Int)) := by rw [ht]; simp [Lib.byteCells, hj]
      rw [List.getElem?_take] at this
      split at this
      · exact this
      · cases this
    have e : ((⟨g, 0, none⟩ : Addr).add j) = ⟨g, j, none⟩ := by by_cases h0 : j = 0 <;> simp [Addr.add, h0]
    rw [e]
    simp only [World.cell?, hh]
    simpa using h1
end Go.Proofs.YtkejdbidomlonaaGreatDoor

namespace Go.Proofs.YtkejdbidomlonaaGreatDoor
open Go.RowKit

theorem S_app (a b : List UInt8) : Value.string (({ data := a.toArray } : ByteArray) ++ ({ data := b.toArray } : ByteArray)) = S (a ++ b) := by
  congr 1
end Go.Proofs.YtkejdbidomlonaaGreatDoor

namespace Go.Proofs.YtkejdbidomlonaaGreatDoor
open Go.RowKit

set_option maxHeartbeats 1100000 in
set_option maxRecDepth 100000 in
theorem r01put_walk (n0 : Nat) (w : World) (hn0 : n0 < 2 ^ 64) :
    Calls Tryz.prog 78 #[.int .u64 n0] w fun e w' => e = .returned (S (putV n0)) ∧ Below w.heap.size w w' := by
  obtain ⟨i0, hi, hz0, hz1, hz2⟩ := info_parts infoByte
  go_enter Tryz.func78, Tryz.ntmps78
  go_wp2
  go_loopw [0, 3] (fun n v wr => ∃ (k : Nat) (out : List UInt8), n = .int .u64 k ∧ out.length ≤ 9 ∧ k < 2 ^ (64 - 7 * out.length) ∧ putV n0 = out ++ putV k ∧ wr.ownsRow w.heap.size 5 1 v out.length (Lib.byteCells out) ∧ Below w.heap.size w wr) (fun n _ _ => (intOf n).toNat)
  case atStart => exact ⟨n0, [], rfl, by simp, by simpa using hn0, rfl, World.ownsRow_nil _ _ _ _, Below.refl _ _⟩
  case round =>
    obtain ⟨k, out, rfl, hol, hk, hp, hown, hB⟩ := hrel
    have HP := Lib.hid hp
    have hsz := hB.size
    have hk64 := putV_word hol hk
    by_cases h1 : k < 128
    · have h1' : ¬ (128 : Int) ≤ (k : Int) := by omega
      have HL := Lib.hid (putV_last hp h1)
      clear hp
      go_wp2_with (at_builtin; refine wpList_append_own _ rfl _ _ 89 rfl w.heap.size 5 i0 (.int .u8 0) 1 1 Tryz.underlying89 hi hz0 hz1 hz2 rfl (by decide) _ _ _ rfl (hown.alloc _) ⟨wr.heap.size, 0, none⟩ 1 1 [.int .u8 (k : Int)] rfl rfl (new_cell _ _ _) (by intro u hu; simp at hu; subst hu; rfl) (by unfold maxLen; omega) (by omega) (by simp; omega) ?_)
      intro v' w1 hown' hgrow _
      have hB1 : Below w.heap.size w w1 := (hB.alloc hsz _).grown hgrow (by simp; omega) (fun j hj => (hown.lt j hj).1)
      clear hgrow hown hB
      have hbk := bytes_back (l := out ++ [UInt8.ofNat k]) (by
        have e : Lib.byteCells (out ++ [UInt8.ofNat k]) = Lib.byteCells out ++ [.int .u8 (k : Int)] := by
          simp [Lib.byteCells]; omega
        rw [e]
        simpa using hown')
      clear hown'
      go_wp2
      go_ret
      exact ⟨by rw [HL.out]; rfl, hB1⟩
    · have h1' : (128 : Int) ≤ (k : Int) := by omega
      have HL := Lib.hid (putV_step hp h1)
      obtain ⟨hr1, hr2⟩ := putV_room hol hk (by omega)
      clear hp
      go_wp2_with (at_builtin; refine wpList_append_own _ rfl _ _ 89 rfl w.heap.size 5 i0 (.int .u8 0) 1 1 Tryz.underlying89 hi hz0 hz1 hz2 rfl (by decide) _ _ _ rfl (hown.alloc _) ⟨wr.heap.size, 0, none⟩ 1 1 [.int .u8 ((k : Int) % 128 + 128)] rfl rfl (new_cell _ _ _) (by intro u hu; simp at hu; subst hu; rfl) (by unfold maxLen; omega) (by omega) (by simp; omega) ?_)
      intro v' w1 hown' hgrow _
      have hB1 : Below w.heap.size w w1 := (hB.alloc hsz _).grown hgrow (by simp; omega) (fun j hj => (hown.lt j hj).1)
      clear hgrow hown hB
      have hown2 : w1.ownsRow w.heap.size 5 1 v' (out ++ [UInt8.ofNat (k % 128 + 128)]).length (Lib.byteCells (out ++ [UInt8.ofNat (k % 128 + 128)])) := by
        have e : Lib.byteCells (out ++ [UInt8.ofNat (k % 128 + 128)]) = Lib.byteCells out ++ [.int .u8 ((k : Int) % 128 + 128)] := by
          simp [Lib.byteCells]; omega
        rw [e]
        simpa using hown'
      clear hown'
      go_wp2
      go_roundw
      case rel => exact ⟨k / 128, _, by go_num, by simp; omega, by simpa using hr2, HL.out, hown2, hB1⟩
      case measure => simp [intOf]; omega

set_option maxHeartbeats 1100000 in
set_option maxRecDepth 100000 in
theorem r01puttext_walk (l : List UInt8) (w : World) (hl : l.length ≤ 1100000) :
    Calls Tryz.prog 79 #[S l] w fun e w' => e = .returned (S (putText l)) ∧ Below w.heap.size w w' := by
  have HT := Lib.hid (show putText l = if 65536 < l.length then [] else putV l.length ++ l from rfl)
  generalize putText l = tt at *
  by_cases h : 65536 < l.length
  · have h' : (65536 : Int) < (l.length : Int) := by omega
    have HT1 := Lib.hid (HT.out.trans (if_pos h))
    go_enter Tryz.func79, Tryz.ntmps79
    go_wp2
    go_ret
    exact ⟨by rw [HT1.out]; rfl, Below.refl _ _⟩
  · have h' : ¬ (65536 : Int) < (l.length : Int) := by omega
    have HT1 := Lib.hid (HT.out.trans (if_neg h))
    go_enter Tryz.func79, Tryz.ntmps79
    go_wp2_with fail
    refine (r01put_walk l.length w (by omega)).mono ?_
    rintro e w1 ⟨rfl, hb⟩
    have hpl := putV_len (n := l.length) (by omega)
    have hns : ¬ 9223372036854775807 < (putV l.length).length + l.length := by omega
    go_wp2
    go_ret
    exact ⟨by rw [HT1.out, ← S_app]; rfl, hb⟩
end Go.Proofs.YtkejdbidomlonaaGreatDoor

namespace Go.Proofs.YtkejdbidomlonaaGreatDoor
open Go Go.RowKit

abbrev LaterS (w : World) (w' : World) : Prop := ∃ p : LaterOf w, w' = p.world
theorem wp_held {P : Program} {id : Nat} {ops : Array Oper} {Q : Exit → Act → World → Prop} {a : Act} {w : World} (hm : P.follows .mixedOrders = true)
    (h : ∀ lw : LaterOf w, wpAnyH P .any ops Q (LaterS w) ops.size (Array.replicate ops.size false) a lw.world) : (Code.region id ops true).wp P Q a w :=
  wp_region_held hm (h ⟨{ w with drawn := w.drawn + 1 }, ⟨rfl, rfl, rfl, Nat.le_refl _, fun _ _ => rfl⟩⟩)
section
variable {P : Program} {ops : Array Oper} {md : Region.Mode} {Q : Exit → Act → World → Prop} {S : World → Prop}
theorem wpAnyH_one {i : Nat} {o : Oper} {fuel : Nat} {listed : Array Bool} {a : Act} {w : World} (hr : Region.ready md ops listed = [i]) (ho : ops[i]? = some o)
    (h : ∀ K' : Act → World → Prop, (∀ a w, S w → wpAnyH P md ops Q S fuel (listed.setIfInBounds i true) a w → K' a w) → if Region.wanted o (yielded ops a.tmps) = true then Oper.wp P o a w K' Q else K' (a.put o.dst undef) w) :
    wpAnyH P md ops Q S (fuel + 1) listed a w :=
  wpAnyH_all hr (by simp) fun j hj => by
    obtain rfl := List.mem_singleton.1 hj
    exact wpOp_step ho fun K' hK => h K' fun a w h1 h2 => hK a w ⟨h1, h2⟩
theorem wpAnyH_two {i j : Nat} {o o' : Oper} {fuel : Nat} {listed : Array Bool} {a : Act} {w : World} (hr : Region.ready md ops listed = [i, j]) (ho : ops[i]? = some o) (ho' : ops[j]? = some o')
    (h : ∀ K' : Act → World → Prop, (∀ a w, S w → wpAnyH P md ops Q S fuel (listed.setIfInBounds i true) a w → K' a w) → if Region.wanted o (yielded ops a.tmps) = true then Oper.wp P o a w K' Q else K' (a.put o.dst undef) w)
    (h' : ∀ K' : Act → World → Prop, (∀ a w, S w → wpAnyH P md ops Q S fuel (listed.setIfInBounds j true) a w → K' a w) → if Region.wanted o' (yielded ops a.tmps) = true then Oper.wp P o' a w K' Q else K' (a.put o'.dst undef) w) :
    wpAnyH P md ops Q S (fuel + 1) listed a w :=
  wpAnyH_all hr (by simp) fun x hx => by
    rcases List.mem_cons.1 hx with rfl | hx
    · exact wpOp_step ho fun K' hK => h K' fun a w h1 h2 => hK a w ⟨h1, h2⟩
    · obtain rfl := List.mem_singleton.1 hx
      exact wpOp_step ho' fun K' hK => h' K' fun a w h1 h2 => hK a w ⟨h1, h2⟩
end
end Go.Proofs.YtkejdbidomlonaaGreatDoor
