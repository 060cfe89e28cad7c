/- fetch.Tree where nothing is below: a load that fails, a directory without entries. The reference's parts: what lies between the slashes. The reference's Split and Fit. fetch's dir, given its entry. -/
import Derived.Test.YtkejdbidomlonaaGreatDoorJOwnP
import Derived.Test.YtkejdbidomlonaaGreatDoorJKeyNP
import Derived.Test.YtkejdbidomlonaaGreatDoorJPlain
import Derived.Test.YtkejdbidomlonaaGreatDoorJNodeFit
import Derived.Test.YtkejdbidomlonaaGreatDoorJItB
import Derived.Test.YtkejdbidomlonaaGreatDoorJNodesL
import Derived.Test.YtkejdbidomlonaaGreatDoorJR11b
namespace Go.Proofs.YtkejdbidomlonaaGreatDoor
open Go.RowKit

set_option maxHeartbeats 2000000 in
set_option maxRecDepth 100000 in
theorem fnumber_walk (b : Nat) (c : Int) (w : World) (h1 : w.cell? ⟨b, 0, none⟩ = some (.int .i64 c)) (hc : c ∈ numsL) :
    Calls Tryz.prog 24 #[.iface 114 (.pointer (some ⟨b, 0, none⟩))] w fun e w' => e = .returned (.int .i64 c) ∧ Below w.heap.size w w' := by
  obtain ⟨w1, hw1, HB1, hz⟩ : ∃ w1, w1 = w.alloc (.cells #[.int .i64 5, .int .i64 11, .int .i64 2, .int .i64 10, .int .i64 8, .int .i64 9, .int .i64 4] 33) ∧ Hid (Below w.heap.size w w1) ∧ w1.heap[w.heap.size]? = some (.cells #[.int .i64 5, .int .i64 11, .int .i64 2, .int .i64 10, .int .i64 8, .int .i64 9, .int .i64 4] 33 (0, 0)) :=
    ⟨_, rfl, Lib.hid ((Below.refl _ _).alloc (Nat.le_refl _) _), heap_alloc_new _ _⟩
  have HC := Lib.hid hc
  have HCELL : ∀ (k : Nat) (hk : k < numsL.length), w1.cell? ⟨w.heap.size, k, none⟩ = some (.int .i64 numsL[k]) := fun k hk => by
    refine heap_cell hz (j := k) ?_
    match k, hk with
    | 0, _ => rfl
    | 1, _ => rfl
    | 2, _ => rfl
    | 3, _ => rfl
    | 4, _ => rfl
    | 5, _ => rfl
    | 6, _ => rfl
  have HCL := Lib.hid HCELL
  have c0 := cell_below HB1.out h1
  have C := fun t => is_fault b c t w1 c0
  clear h1 hz hc HCELL
  go_enter Tryz.func24, Tryz.ntmps24
  go_upto_region 2 with fail
  rw [← hw1]
  clear hw1
  go_loopw [7] (fun i wr => ∃ k : Nat, k ≤ numsL.length ∧ i = .int .i64 k ∧ wr = w1 ∧ ∀ j (hj : j < k) (hk : j < numsL.length), numsL[j] ≠ c) (fun i _ => numsL.length - (intOf i).toNat)
  case atStart => exact ⟨0, Nat.zero_le _, rfl, rfl, fun j hj => by omega⟩
  case round =>
    obtain ⟨k, hk, rfl, rfl, hall⟩ := hrel
    have HALL := Lib.hid hall
    have hl7 : numsL.length = 7 := rfl
    clear hall
    by_cases h2 : k < numsL.length
    · have h2' : (k : Int) < 7 := by omega
      have hc2 := HCL.out k h2
      have HK := Lib.hid (show numsL[k] = numsL[k] from rfl)
      generalize hy : numsL[k] = y at *
      have HY := Lib.hid hy
      clear hy HK
      have C2 := C y
      by_cases hcy : c = y
      · rw [show (c == y) = true by rw [beq_iff_eq]; exact hcy] at C2
        have HCY := Lib.hid hcy
        clear hcy C
        go_wp2_with fail
        refine C2.mono ?_
        rintro e w2 ⟨rfl, rfl⟩
        clear C2
        go_wp2
        go_ret
        exact ⟨by rw [HCY.out]; rfl, HB1.out⟩
      · rw [show (c == y) = false by rw [beq_eq_false_iff_ne]; exact hcy] at C2
        have HCY := Lib.hid hcy
        clear hcy C
        go_wp2_with fail
        refine C2.mono ?_
        rintro e w2 ⟨rfl, rfl⟩
        clear C2
        go_wp2
        go_roundw
        case rel =>
          refine ⟨k + 1, by omega, by go_num, by first | trivial | rfl, fun j hj hk2 => ?_⟩
          by_cases hjk : j = k
          · subst hjk
            intro h8
            exact HCY.out (by rw [← HY.out]; exact h8.symm)
          · exact HALL.out j (by omega) hk2
        case measure => simp [intOf]; omega
    · exfalso
      obtain ⟨j, hj, hjc⟩ := List.getElem_of_mem HC.out
      exact HALL.out j (by omega) hj hjc

set_option maxHeartbeats 4000000 in
set_option maxRecDepth 100000 in
/-- A directory that cannot be loaded, or that has no entries. -/
theorem dir0_walk (b : Nat) (la : Option Addr) (lc : Nat) (ov sv : Value) (o : List Snp) (key : List UInt8) (path : List UInt8) (w : World)
    (hf : w.heap[b]? = some (.cells #[.slice la o.length lc, ov, sv] 55 (0, 0))) (ho : SnpRow w (.slice la o.length lc) o) (hT : ErrT w) (hup : upS (namesR o)) (hol : o.length ≤ 1100000) (hraw : ∀ x ∈ o, x.2.length ≤ 1000000)
    (hz : loadC o key 3 ≠ 0 ∨ (readN (rootOf (findR o key))).1.ents = []) :
    Calls Tryz.prog 23 #[.pointer (some ⟨b, 0, none⟩), S key, S path] w fun e w' => Below w.heap.size w w' ∧ ((loadC o key 3 = 0 ∧ e = .returned .nilIface) ∨ (loadC o key 3 ≠ 0 ∧ ∃ g, e = .returned (.iface 114 (.pointer (some ⟨g, 0, none⟩))) ∧ w'.cell? ⟨g, 0, none⟩ = some (.int .i64 (loadC o key 3)))) := by
  have C := load_walk b la lc ov sv o key 3 path w hf ho hT hup hol hraw
  have HZ := Lib.hid hz
  clear hf ho hT hraw hz
  unfold LoadPost at C
  generalize loadC o key 3 = lcd at *
  go_enter Tryz.func23, Tryz.ntmps23
  go_wp2_with fail
  refine C.mono ?_
  rintro e w1 ⟨n, vp, ve, ev, rfl, hnr, -, hb1, hev⟩
  obtain ⟨pa, pc, rfl⟩ := row_slice hnr.parts
  obtain ⟨ua, uc, rfl⟩ := row_slice hnr.ents
  obtain ⟨w2, hw2, HB2, hn2⟩ : ∃ w2, w2 = w1.alloc (.cells #[.int .i64 n.kind, S n.data, .slice pa n.parts.length pc, .slice ua n.ents.length uc] 77) ∧ Hid (Below w.heap.size w w2) ∧ w2.heap[w1.heap.size]? = some (.cells #[.int .i64 n.kind, S n.data, .slice pa n.parts.length pc, .slice ua n.ents.length uc] 77 (0, 0)) :=
    ⟨_, rfl, Lib.hid (hb1.alloc hb1.size _), heap_alloc_new _ _⟩
  rcases hev with ⟨hl0, rfl, hne⟩ | ⟨hl0, g, rfl, hg⟩
  · have hents : n.ents = [] := by
      rcases HZ.out with h | h
      · exact absurd hl0 h
      · rw [hne]; exact h
    have HL0 := Lib.hid hl0
    obtain ⟨⟨z0, z1, z2, z3⟩, -, -⟩ := box4 hn2
    rw [hents, List.length_nil] at z3 hw2
    rw [hents, List.length_nil]
    clear C hnr hb1 hl0 hne hn2 hents
    go_upto_region 2 with fail
    rw [← hw2]
    clear hw2
    go_wp2
    go_loopw [25] (fun i wr => i = .int .i64 0 ∧ wr = w2) (fun i _ => 0)
    case atStart => exact ⟨rfl, rfl⟩
    case round =>
      obtain ⟨rfl, rfl⟩ := hrel
      go_wp2
      go_ret
      exact ⟨HB2.out, .inl ⟨HL0.out, rfl⟩⟩
  · have HL0 := Lib.hid hl0
    have HG2 := Lib.hid (show w2.cell? ⟨g, 0, none⟩ = some (.int .i64 lcd) from heap_cell (by rw [hw2]; exact (Below.heap_alloc _ _ _ (heap_lt hg)).trans hg) (j := 0) rfl)
    clear C hnr hb1 hl0 hg hn2
    go_upto_region 2 with fail
    rw [← hw2]
    clear hw2
    go_wp2
    go_ret
    exact ⟨HB2.out, .inr ⟨HL0.out, g, rfl, HG2.out⟩⟩

set_option maxHeartbeats 4000000 in
set_option maxRecDepth 100000 in
theorem tree0_walk (lv : Value) (o : List Snp) (key : List UInt8) (w : World) (ho : SnpRow w lv o) (hT : ErrT w) (hup : upS (namesR o)) (hol : o.length ≤ 1100000) (hraw : ∀ x ∈ o, x.2.length ≤ 1000000)
    (hz : loadC o key 3 ≠ 0 ∨ (readN (rootOf (findR o key))).1.ents = []) :
    Calls Tryz.prog 9 #[lv, S key] w fun e w' => e = .returned (.tuple #[.slice none 0 0, .int .i64 (loadC o key 3)]) ∧ Below w.heap.size w w' := by
  have HO := Lib.hid ho
  obtain ⟨la, lc, rfl, -⟩ := ho
  obtain ⟨w1, hw1, hb1, hf1⟩ : ∃ w1, w1 = w.alloc (.cells #[.slice la o.length lc, .slice none 0 0, .int .i64 0] 55) ∧ Below w.heap.size w w1 ∧ w1.heap[w.heap.size]? = some (.cells #[.slice la o.length lc, .slice none 0 0, .int .i64 0] 55 (0, 0)) :=
    ⟨_, rfl, (Below.refl _ _).alloc (Nat.le_refl _) _, heap_alloc_new _ _⟩
  have C := dir0_walk w.heap.size la lc _ _ o key [] w1 hf1 (HO.out.below hb1) (hT.below hb1) hup hol hraw hz
  have HB1 := Lib.hid hb1
  have HF1 := Lib.hid hf1
  have HMEM := Lib.hid (fun h => loadC_mem (o := o) (key := key) (kind := 3) h)
  clear hraw hz hT hb1 hf1
  generalize loadC o key 3 = lcd at *
  go_enter Tryz.func9, Tryz.ntmps9
  go_upto_region 2 with fail
  rw [← hw1]
  clear hw1
  go_wp2_with fail
  refine C.mono ?_
  rintro e w2 ⟨hb2, hev⟩
  have HB2 := Lib.hid (below_chain HB1.out hb2 HB1.out.size)
  rcases hev with ⟨rfl, rfl⟩ | ⟨hl0, g, rfl, hg⟩
  · have c1 := heap_cell ((hb2.block _ (heap_lt HF1.out)).trans HF1.out) (j := 1) (v := .slice none 0 0) rfl
    clear C hb2
    go_wp2
    go_ret2
    exact ⟨rfl, HB2.out⟩
  · have CN := fnumber_walk g lcd w2 hg (HMEM.out hl0)
    clear C hb2 hl0
    go_wp2_with fail
    refine CN.mono ?_
    rintro e w3 ⟨rfl, hb3⟩
    have HB3 := Lib.hid (below_chain HB2.out hb3 HB2.out.size)
    clear CN hb3 hg
    go_wp2
    go_ret2
    exact ⟨rfl, HB3.out⟩
end Go.Proofs.YtkejdbidomlonaaGreatDoor

namespace Go.Proofs.YtkejdbidomlonaaGreatDoor
open Go.RowKit

theorem byte_ne {c : UInt8} (h : c ≠ 47) : ((c.toNat : Int) == 47) = false := by
  rw [beq_eq_false_iff_ne]; intro e; exact h (UInt8.toNat_inj.1 (by simp; omega))

set_option maxHeartbeats 1100000 in
set_option maxRecDepth 100000 in
theorem rparts_walk (l : List UInt8) (w : World) (hl : l.length ≤ 1100000) :
    Calls Tryz.prog 52 #[S l] w fun e w' => ∃ v, e = .returned v ∧ StrRow w' v (partsL l) ∧ Below w.heap.size w w' := by
  obtain ⟨i0, hi, hz0, hz1, hz2⟩ := info_parts infoStr
  go_enter Tryz.func52, Tryz.ntmps52
  go_wp2
  go_loopw [3, 4, 5] (fun v fr i wr => ∃ (k f : Nat) (dn : List (List UInt8)), i = .int .i64 k ∧ fr = .int .i64 f ∧ wr.ownsRow w.heap.size 9 1 v dn.length (dn.map S) ∧ Below w.heap.size w wr ∧ dn.length ≤ k ∧
      ((k ≤ l.length ∧ f ≤ k ∧ partsL l = dn ++ partsL (l.drop f) ∧ ∀ c ∈ cutL l f k, c ≠ 47) ∨ (k = l.length + 1 ∧ dn = partsL l)))
    (fun _ _ i _ => l.length + 1 - (intOf i).toNat)
  case atStart => exact ⟨0, 0, [], rfl, rfl, World.ownsRow_nil _ _ _ _, Below.refl _ _, Nat.zero_le _, .inl ⟨Nat.zero_le _, Nat.le_refl _, rfl, by rw [cutL_self]; intro c hc; cases hc⟩⟩
  case round =>
    obtain ⟨k, f, dn, rfl, rfl, hown, hB, hdk, hst⟩ := hrel
    rcases hst with ⟨hk, hf, hp, hn⟩ | ⟨hk, hd⟩
    · have HP := Lib.hid hp
      have HNs := Lib.hid hn
      clear hp hn
      have hsz := hB.size
      by_cases hke : k = l.length
      · have HE := Lib.hid (parts_step_end (Nat.le_of_eq hke.symm) HNs.out HP.out)
        have h1 : ((k : Int) == (l.length : Int)) = true := by rw [hke]; simp
        have h2 : (k : Int) ≤ (l.length : Int) := by omega
        have h3 : l.length ≤ k := by omega
        clear hke
        go_wp2_with (at_builtin; refine wpList_append_own _ rfl _ _ 38 rfl w.heap.size 9 i0 (.string ⟨#[]⟩) 1 16 Tryz.underlying38 hi hz0 hz1 hz2 rfl (by decide) _ _ _ rfl (hown.alloc _) ⟨wr.heap.size, 0, none⟩ 1 1 [.string (({ data := l.toArray } : ByteArray).extract f k)] rfl rfl ?c1 ?c2 ?c3 ?c4 ?c5 ?_)
        case c1 => exact new_cell _ _ _
        case c2 => intro u hu; simp at hu; subst hu; rfl
        case c3 => unfold maxLen; omega
        case c4 => omega
        case c5 => simp; omega
        intro v' w1 hown' hgrow _
        have hB1 : Below w.heap.size w w1 := (hB.alloc hsz _).grown hgrow (by simp; omega) (fun j hj => (hown.lt j hj).1)
        have HO := Lib.hid hown'
        clear hown' hgrow hown
        go_wp2
        go_roundw
        case rel =>
          refine ⟨k + 1, k + 1, dn ++ [cutL l f k], by go_num, by go_num, ?_, hB1, by simp; omega, .inr ⟨by omega, HE.out.symm⟩⟩
          have := HO.out
          rw [S_extract] at this
          simpa using this
        case measure => simp [intOf]; omega
      · have hlt : k < l.length := by omega
        have h1 : ((k : Int) == (l.length : Int)) = false := by rw [beq_eq_false_iff_ne]; omega
        have h2 : (k : Int) ≤ (l.length : Int) := by omega
        clear hke
        by_cases hs : l[k] = 47
        · have HE := Lib.hid (parts_step_slash hf hlt hs HNs.out HP.out)
          have hc : (({ data := l.toArray } : ByteArray)[k]'hlt).toNat = 47 := by show (l[k]).toNat = 47; rw [hs]; rfl
          clear hs
          go_wp2_with (at_builtin; refine wpList_append_own _ rfl _ _ 38 rfl w.heap.size 9 i0 (.string ⟨#[]⟩) 1 16 Tryz.underlying38 hi hz0 hz1 hz2 rfl (by decide) _ _ _ rfl (hown.alloc _) ⟨wr.heap.size, 0, none⟩ 1 1 [.string (({ data := l.toArray } : ByteArray).extract f k)] rfl rfl ?d1 ?d2 ?d3 ?d4 ?d5 ?_)
          case d1 => exact new_cell _ _ _
          case d2 => intro u hu; simp at hu; subst hu; rfl
          case d3 => unfold maxLen; omega
          case d4 => omega
          case d5 => simp; omega
          intro v' w1 hown' hgrow _
          have hB1 : Below w.heap.size w w1 := (hB.alloc hsz _).grown hgrow (by simp; omega) (fun j hj => (hown.lt j hj).1)
          have HO := Lib.hid hown'
          clear hown' hgrow hown
          go_wp2
          go_roundw
          case rel =>
            refine ⟨k + 1, k + 1, dn ++ [cutL l f k], by go_num, by go_num, ?_, hB1, by simp; omega, .inl ⟨by omega, Nat.le_refl _, HE.out, by rw [cutL_self]; intro c hc; cases hc⟩⟩
            have := HO.out
            rw [S_extract] at this
            simpa using this
          case measure => simp [intOf]; omega
        · have HE := Lib.hid (noslash_step hf hlt hs HNs.out)
          have hc : (((({ data := l.toArray } : ByteArray)[k]'hlt).toNat : Int) == 47) = false := byte_ne hs
          clear hs
          go_wp2
          go_roundw
          case rel => exact ⟨k + 1, f, dn, by go_num, rfl, hown, hB, by omega, .inl ⟨by omega, by omega, HP.out, HE.out⟩⟩
          case measure => simp [intOf]; omega
    · have h2 : ¬ (k : Int) ≤ (l.length : Int) := by omega
      subst hd
      clear hk
      go_wp2
      go_ret
      exact ⟨_, rfl, StrRow.of_owns hown, hB⟩
end Go.Proofs.YtkejdbidomlonaaGreatDoor

namespace Go.Proofs.YtkejdbidomlonaaGreatDoor
open Go.RowKit

set_option maxHeartbeats 1100000 in
set_option maxRecDepth 100000 in
theorem rsplit_walk (l : List UInt8) (w : World) (hl : l.length ≤ 1100000) :
    Calls Tryz.prog 41 #[S l] w fun e w' => ∃ v, e = .returned v ∧ StrRow w' v (splitL l) ∧ Below w.heap.size w w' := by
  have C := rparts_walk l w hl
  have hlen := partsL_len l
  have hcnt := partsL_count l
  have HS := Lib.hid (show splitL l = if (partsL l).length ≤ 8 ∧ (partsL l).all nameB = true then partsL l else [] from rfl)
  generalize splitL l = sp at HS ⊢
  generalize partsL l = ps at C hlen hcnt HS
  have HL := Lib.hid hlen
  clear hlen
  by_cases h8 : (8 : Int) < (ps.length : Int)
  · obtain rfl : sp = [] := by rw [HS.out, if_neg]; omega
    go_enter Tryz.func41, Tryz.ntmps41
    go_wp2_with (go_at_call 52; refine C.mono ?_; rintro e w1 ⟨v, rfl, ⟨a, c, rfl, hc, hm, hx⟩, hb⟩)
    go_ret
    exact ⟨_, rfl, StrRow.nil _, hb⟩
  · go_enter Tryz.func41, Tryz.ntmps41
    go_wp2_with (go_at_call 52; refine C.mono ?_; rintro e w1 ⟨v, rfl, ⟨a, c, rfl, hc, hm, hx⟩, hb⟩)
    have HX := Lib.hid hx
    have HB := Lib.hid hb
    clear hx hb
    go_loop [4] (fun i => ∃ k : Nat, k ≤ ps.length ∧ i = .int .i64 k ∧ (ps.take k).all nameB = true) (fun i => ps.length - (intOf i).toNat)
    case atStart => exact ⟨0, Nat.zero_le _, rfl, rfl⟩
    case round =>
      obtain ⟨k, hk, rfl, ha⟩ := hrel
      have HA := Lib.hid ha
      clear ha
      by_cases hlt : k < ps.length
      · have hx := HX.out
        rcases hx with hx | ⟨b, o, rfl, hx⟩
        · exfalso; rw [hx] at hlt; simp at hlt
        have hcell := hx k ps[k] (by simp [hlt])
        have hpl : ps[k].length ≤ 1100000 := Nat.le_trans (HL.out _ (List.getElem_mem hlt)) hl
        have C2 := rname_walk ps[k] w1 hpl
        have hcx : k < ps.length → w1.cell? ⟨b, o + k, none⟩ = some (S ps[k]) := fun _ => hcell
        have HT := Lib.hid (allN_take_succ ps k hlt)
        have HBD := Lib.hid (fun h => allN_bad hlt h)
        clear hx hcell
        generalize ps[k] = p at *
        cases hn : nameB p
        · rw [hn] at C2
          have HF := Lib.hid (HBD.out hn)
          clear hn
          go_wp2_with (go_at_call 68; refine C2.mono ?_; rintro e w2 ⟨rfl, rfl⟩)
          go_ret
          exact ⟨_, rfl, by rw [HS.out, if_neg (by rw [HF.out]; simp)]; exact StrRow.nil _, HB.out⟩
        · rw [hn] at C2
          have HF := Lib.hid hn
          clear hn
          go_wp2_with (go_at_call 68; refine C2.mono ?_; rintro e w2 ⟨rfl, rfl⟩)
          go_round
          case rel => exact ⟨k + 1, by omega, by go_num, by rw [HT.out, HA.out, HF.out]; rfl⟩
          case measure => simp [intOf]; omega
      · go_wp2
        go_ret
        have ha := HA.out
        rw [List.take_of_length_le (by omega)] at ha
        exact ⟨_, rfl, by rw [HS.out, if_pos ⟨by omega, ha⟩]; exact ⟨_, _, rfl, hc, hm, HX.out⟩, HB.out⟩

set_option maxHeartbeats 400000 in
theorem rfit_walk (l : List UInt8) (w : World) (hl : l.length ≤ 1100000) :
    Calls Tryz.prog 29 #[S l] w fun e w' => e = .returned (.bool (fitB l)) ∧ Below w.heap.size w w' := by
  have C := rsplit_walk l w hl
  have HF := Lib.hid (show fitB l = decide (0 < (splitL l).length) from rfl)
  generalize fitB l = fb at HF ⊢
  generalize splitL l = sp at C HF
  go_enter Tryz.func29, Tryz.ntmps29
  go_wp2_with (go_at_call 41; refine C.mono ?_; rintro e w1 ⟨v, rfl, ⟨a, c, rfl, hc, hm, hx⟩, hb⟩)
  go_ret
  exact ⟨ret_bool (by rw [HF.out]), hb⟩
end Go.Proofs.YtkejdbidomlonaaGreatDoor

namespace Go.Proofs.YtkejdbidomlonaaGreatDoor
open Go.RowKit

section
variable (W0 : World) (b : Nat) (la : Option Addr) (lc : Nat) (o : List Snp)
/-- What dir does, at n names and fewer below. -/
def DirOK (n : Nat) : Prop := ∀ (key d : List UInt8) (st : StC) (ov : Value) (w : World), (d = [] ∨ fitB d = true) → n + deepD d = 9 → Below W0.heap.size W0 w → FSt W0.heap.size b w la lc o ov st → st.2 ≤ 65536 → st.1.length ≤ 60 →
  Calls Tryz.prog 23 #[.pointer (some ⟨b, 0, none⟩), S key, S (atD d)] w fun e w' => ∃ ev v', e = .returned ev ∧ FSt W0.heap.size b w' la lc o v' (dirC o n key d st).1 ∧ FGot b w.heap.size w w' ov v' ∧ ErrC (dirC o n key d st).2 ev w'
/-- What entry does. -/
def EntOK (n : Nat) : Prop := ∀ (e : Ent) (d : List UInt8) (st : StC) (ov : Value) (w : World), (d = [] ∨ fitB d = true) → n + 1 + deepD d = 9 → entOk e = true → Below W0.heap.size W0 w → FSt W0.heap.size b w la lc o ov st → st.2 ≤ 65536 → st.1.length ≤ 60 →
  Calls Tryz.prog 45 #[.pointer (some ⟨b, 0, none⟩), EntV e, S (atD d ++ e.1)] w fun e' w' => ∃ ev v', e' = .returned ev ∧ FSt W0.heap.size b w' la lc o v' (entC1 o (dirC o n) d e st).1 ∧ FGot b w.heap.size w w' ov v' ∧ ErrC (entC1 o (dirC o n) d e st).2 ev w'
end

theorem at_len {d : List UInt8} (hd : d = [] ∨ fitB d = true) : (atD d).length ≤ 1100001 := by
  unfold atD
  rcases hd with rfl | hd
  · simp
  · obtain ⟨q1, q2, q3⟩ := fit_parts hd
    have := joinS_len (partsL d) (List.all_eq_true.2 q2)
    rw [joinS_parts] at this
    split
    · simp
    · rw [List.length_append, List.length_singleton]; omega
/-- Between two entries of a directory. -/
def FDirI (W0 : World) (b : Nat) (la : Option Addr) (lc : Nat) (o : List Snp) (n : Nat) (d : List UInt8) (ents : List Ent) (st : StC) (ov : Value) (w2 : World) (i : Value) (wr : World) : Prop :=
  ∃ (q : Nat) (v' : Value) (st' : StC), q ≤ ents.length ∧ i = .int .i64 q ∧ Hid (FSt W0.heap.size b wr la lc o v' st') ∧ Hid (FGot b w2.heap.size w2 wr ov v') ∧ Hid (entsC o (dirC o n) d ents st = entsC o (dirC o n) d (ents.drop q) st') ∧ Hid (st'.2 ≤ 65536 ∧ st'.1.length ≤ 60)
theorem entsC_cons (o : List Snp) (rec : List UInt8 → List UInt8 → StC → StC × Int) (d : List UInt8) (e : Ent) (es : List Ent) (st : StC) : entsC o rec d (e :: es) st = if (entC1 o rec d e st).2 ≠ 0 then entC1 o rec d e st else entsC o rec d es (entC1 o rec d e st).1 := rfl

set_option maxHeartbeats 8000000 in
set_option maxRecDepth 100000 in
theorem fdir_of (W0 : World) (b : Nat) (la : Option Addr) (lc : Nat) (o : List Snp) (n : Nat) (ho : SnpRow W0 (.slice la o.length lc) o) (hT : ErrT W0) (hup : upS (namesR o)) (hol : o.length ≤ 1100000) (hraw : ∀ x ∈ o, x.2.length ≤ 1000000) (HE : EntOK W0 b la lc o n) : DirOK W0 b la lc o (n + 1) := by
  intro key d st ov w hd hn hbw hst h65 h60
  have CL := load_walk b la lc ov (.int .i64 (st.2 : Nat)) o key 3 (atD d) w hst.box (ho.below hbw) (hT.below hbw) hup hol hraw
  have HST := Lib.hid hst
  have HBW := Lib.hid hbw
  have HDC := Lib.hid (show dirC o (n + 1) key d st = if loadC o key 3 ≠ 0 then (st, loadC o key 3) else entsC o (dirC o n) d (nodeC o key).ents st from rfl)
  have HOK := Lib.hid (fun (h : loadC o key 3 = 0) => loadC_ok h)
  have HMEM := Lib.hid (fun h => loadC_mem (o := o) (key := key) (kind := 3) h)
  have HND := Lib.hid (show nodeC o key = (readN (rootOf (findR o key))).1 from rfl)
  have HEE := Lib.hid HE
  have HDL := Lib.hid (show (atD d).length ≤ 1100001 from at_len hd)
  clear ho hT hraw hst hbw HE
  unfold LoadPost at CL
  generalize loadC o key 3 = lcd at *
  generalize (readN (rootOf (findR o key))).1 = nd0 at *
  go_enter Tryz.func23, Tryz.ntmps23
  go_wp2_with fail
  refine CL.mono ?_
  rintro e w1 ⟨nd, vp, ve, ev, rfl, hnr, hvb, hb1, hev⟩
  obtain ⟨pa, pc, rfl⟩ := row_slice hnr.parts
  obtain ⟨ua, uc, rfl⟩ := row_slice hnr.ents
  obtain ⟨w2, hw2, HB2, hn2⟩ : ∃ w2, w2 = w1.alloc (.cells #[.int .i64 nd.kind, S nd.data, .slice pa nd.parts.length pc, .slice ua nd.ents.length uc] 77) ∧ Hid (Below w.heap.size w w2) ∧ w2.heap[w1.heap.size]? = some (.cells #[.int .i64 nd.kind, S nd.data, .slice pa nd.parts.length pc, .slice ua nd.ents.length uc] 77 (0, 0)) :=
    ⟨_, rfl, Lib.hid (hb1.alloc hb1.size _), heap_alloc_new _ _⟩
  have HST2 := Lib.hid (HST.out.below HB2.out)
  have HGW := Lib.hid ((FGot.start b w.heap.size w ov).below HB2.out)
  rcases hev with ⟨hl0, rfl, hne⟩ | ⟨hl0, g, rfl, hg⟩
  · have HNR2 := Lib.hid (hnr.ents.below (show Below w1.heap.size w1 w2 by rw [hw2]; exact (Below.refl _ _).alloc (Nat.le_refl _) _))
    obtain ⟨hfn, hkd, -⟩ := HOK.out hl0
    rw [HND.out, ← hne] at hfn hkd
    have HFD := Lib.hid (show FitDir nd.ents by
      rcases hfn with h | h | h
      · rw [h.1] at hkd; cases hkd
      · rw [h.1] at hkd; cases hkd
      · exact h.2.2.2)
    have HRES := Lib.hid (show dirC o (n + 1) key d st = entsC o (dirC o n) d nd.ents st by rw [HDC.out, if_neg (by rw [hl0]; simp), HND.out, hne])
    have HVB := Lib.hid hvb.out.2
    have hel := HFD.out.len
    obtain ⟨⟨z0, z1, z2, z3⟩, -, -⟩ := box4 hn2
    obtain ⟨_, _, hve, -, -, hx⟩ := HNR2.out
    cases hve
    have HX := Lib.hid hx
    have HBL := Lib.hid (heap_lt HST.out.box)
    clear CL hnr hb1 hl0 hne hn2 hfn hkd hvb hx
    go_upto_region 2 with fail
    rw [← hw2]
    clear hw2
    go_wp2
    go_loopw [25] (fun i wr => FDirI W0 b la lc o n d nd.ents st ov w2 i wr) (fun i _ => nd.ents.length - (intOf i).toNat)
    case atStart => exact ⟨0, ov, st, Nat.zero_le _, rfl, HST2, Lib.hid (FGot.start _ _ _ _), Lib.hid rfl, Lib.hid ⟨h65, h60⟩⟩
    case round =>
      obtain ⟨q, v', st', hq, rfl, HS, HG, HEQ, HLE⟩ := hrel
      have HGL := Lib.hid (HGW.out.trans HG.out HB2.out.size)
      have HWR := Lib.hid (show Below W0.heap.size W0 wr from HGL.out.base HBW.out HBW.out.size HST.out.lo (fun j hj => (HST.out.own.lt j hj).1))
      by_cases h1 : q < nd.ents.length
      · have h1' : (q : Int) < (nd.ents.length : Int) := by omega
        have hx := HX.out
        rcases hx with hx | ⟨g, eo, rfl, hx⟩
        · exfalso; rw [hx] at h1; simp at h1
        have hblk : wr.heap[g]? = w2.heap[g]? := by
          have h3 := HVB.out g rfl
          have h4 := HBL.out
          refine HG.out.block g ?_ ?_ (by omega) (fun e => ?_)
          · exact lt_of_cell (hx q nd.ents[q] (by simp [h1]) 0 _ rfl)
          · exact lt_of_cell (hx q nd.ents[q] (by simp [h1]) 0 _ rfl)
          · have := (HST.out.own.lt g e.symm).2; omega
        have hcl : ∀ i u, (entC nd.ents[q])[i]? = some u → wr.cell? ⟨g, eo + q * 4 + i, none⟩ = some u := fun i u hu => (World.cell?_of_block (a := ⟨g, eo + q * 4 + i, none⟩) hblk).trans (hx q nd.ents[q] (by simp [h1]) i u hu)
        have m0 := hcl 0 _ rfl
        have m1 := hcl 1 _ rfl
        have m2 := hcl 2 _ rfl
        have m3 := hcl 3 _ rfl
        have HDR := Lib.hid (show nd.ents.drop q = nd.ents[q] :: nd.ents.drop (q + 1) from List.drop_eq_getElem_cons h1)
        have hok := HFD.out.ok nd.ents[q] (List.getElem_mem h1)
        clear hcl hblk hx
        generalize nd.ents[q] = en at *
        obtain ⟨nm, kd, ex, ky⟩ := en
        simp only [Nat.add_zero] at m0 m1 m2 m3
        obtain ⟨we, hwe, hbe, hze⟩ : ∃ we, we = wr.alloc (.cells #[S nm, .int .i64 kd, .bool ex, S ky] 80) ∧ Below wr.heap.size wr we ∧ we.heap[wr.heap.size]? = some (.cells #[S nm, .int .i64 kd, .bool ex, S ky] 80 (0, 0)) :=
          ⟨_, rfl, (Below.refl _ _).alloc (Nat.le_refl _) _, heap_alloc_new _ _⟩
        have CE := HEE.out (nm, kd, ex, ky) d st' v' we hd (by omega) hok (below_chain HWR.out hbe HWR.out.size) (HS.out.below hbe) HLE.out.1 HLE.out.2
        have hnl := nameB_len (entOk_parts hok).2.2
        simp only at hnl
        have HNEW := Lib.hid (fun (h0 : (entC1 o (dirC o n) d (nm, kd, ex, ky) st').2 = 0) => entC1_new (o := o) hd hok (fun st2 hf _ => dirC_new n ky _ st2 (.inr hf)) h0)
        have HST1 := Lib.hid (show entsC o (dirC o n) d nd.ents st = if (entC1 o (dirC o n) d (nm, kd, ex, ky) st').2 ≠ 0 then entC1 o (dirC o n) d (nm, kd, ex, ky) st' else entsC o (dirC o n) d (nd.ents.drop (q + 1)) (entC1 o (dirC o n) d (nm, kd, ex, ky) st').1 by rw [HEQ.out, HDR.out]; rfl)
        generalize entC1 o (dirC o n) d (nm, kd, ex, ky) st' = r at *
        have hns : ¬ 9223372036854775807 < (atD d).length + nm.length := by
          have := HDL.out
          omega
        rw [← S_app] at CE
        obtain ⟨⟨r0, r1, r2, r3⟩, -, -⟩ := box4 hze
        have HBE := Lib.hid hbe
        clear hok hnl hbe hze
        go_upto_region 7 with fail
        rw [← hwe]
        clear hwe m0 m1 m2 m3
        go_wp2_with fail
        refine CE.mono ?_
        rintro e w5 ⟨ev, v5, rfl, hs5, hg5, herr⟩
        have HG5 := Lib.hid ((HG.out.below HBE.out).trans hg5 (Nat.le_trans HG.out.size HBE.out.size))
        have HS5 := Lib.hid hs5
        clear CE hs5 hg5 r0 r1 r2 r3
        rcases herr with ⟨hr0, rfl⟩ | ⟨hr0, hmem, g5, pp5, rfl, hc5⟩
        · have HR0 := Lib.hid hr0
          clear hr0
          go_wp2
          go_roundw
          case rel =>
            obtain ⟨new, _, _, _, _, b5, b6⟩ := HNEW.out HR0.out
            exact ⟨q + 1, v5, r.1, by omega, by go_num, HS5, HG5, Lib.hid (by rw [HST1.out, if_neg (by rw [HR0.out]; simp)]), Lib.hid ⟨b5 HLE.out.1, b6 HLE.out.2⟩⟩
          case measure => simp [intOf]; omega
        · have HER := Lib.hid (show ErrC r.2 (.iface 114 (.pointer (some ⟨g5, 0, none⟩))) w5 from .inr ⟨hr0, hmem, g5, pp5, rfl, hc5⟩)
          have HRR := Lib.hid (show dirC o (n + 1) key d st = r by rw [HRES.out, HST1.out, if_pos hr0])
          clear hr0 hmem hc5
          go_wp2
          go_ret
          exact ⟨_, v5, rfl, by rw [HRR.out]; exact HS5.out, HGW.out.trans HG5.out HB2.out.size, by rw [HRR.out]; exact HER.out⟩
      · have h1' : ¬ (q : Int) < (nd.ents.length : Int) := by omega
        have HRR := Lib.hid (show dirC o (n + 1) key d st = (st', 0) by rw [HRES.out, HEQ.out, List.drop_eq_nil_of_le (by omega)]; rfl)
        go_wp2
        go_ret
        exact ⟨_, rfl, v', by rw [HRR.out]; exact HS.out, HGL.out, by rw [HRR.out]; exact .inl ⟨rfl, rfl⟩⟩
  · have HL0 := Lib.hid hl0
    have HRES := Lib.hid (show dirC o (n + 1) key d st = (st, lcd) by rw [HDC.out, if_pos hl0])
    have HG2 := Lib.hid (show w2.heap[g]? = some (.cells #[.int .i64 lcd, S (atD d)] 116 (0, 0)) by rw [hw2]; exact (Below.heap_alloc _ _ _ (heap_lt hg)).trans hg)
    have HMM := Lib.hid (HMEM.out hl0)
    clear CL hnr hb1 hl0 hg hn2 hvb
    go_upto_region 2 with fail
    rw [← hw2]
    clear hw2
    go_wp2
    go_ret
    exact ⟨_, ov, rfl, by rw [HRES.out]; exact HST2.out, HGW.out, by rw [HRES.out]; exact .inr ⟨HL0.out, HMM.out, g, _, rfl, HG2.out⟩⟩
end Go.Proofs.YtkejdbidomlonaaGreatDoor
