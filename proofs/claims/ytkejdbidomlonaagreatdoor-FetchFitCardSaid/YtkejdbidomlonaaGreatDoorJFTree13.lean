/- fetch.Tree. The reference's Get and Fit of objects. Few objects, of few bytes, that are fit: plain. Few objects, of few bytes, that are fit. The reference's sums. -/
import Derived.Test.YtkejdbidomlonaaGreatDoorPEnt13
import Derived.Test.YtkejdbidomlonaaGreatDoorJSnpPlain
import Derived.Test.YtkejdbidomlonaaGreatDoorJKeysP
import Derived.Test.YtkejdbidomlonaaGreatDoorJNodeFit
import Derived.Test.YtkejdbidomlonaaGreatDoorJPRead11
namespace Go.Proofs.YtkejdbidomlonaaGreatDoor
open Go.RowKit

theorem fdir_all (W0 : World) (b : Nat) (la : Option Addr) (lc : Nat) (o : List Snp) (ho : SnpRow W0 (.slice la o.length lc) o) (hT : ErrT W0) (hup : upS (namesR o)) (hol : o.length ≤ 1100000) (hraw : ∀ x ∈ o, x.2.length ≤ 1000000) : ∀ n, DirOK W0 b la lc o n := by
  intro n
  induction n with
  | zero =>
    intro key d st ov w hd hn
    exfalso
    rcases hd with rfl | hd
    · simp [deepD] at hn
    · have := (deep_step hd).2; omega
  | succ n ih => exact fdir_of W0 b la lc o n ho hT hup hol hraw (fent_of W0 b la lc o n ho hT hup hol hraw ih)

/-- What fetch.Tree tells. -/
noncomputable def toldC (o : List Snp) (key : List UInt8) : List Itm × Int := if (dirC o 9 key [] ([], 0)).2 = 0 then ((dirC o 9 key [] ([], 0)).1.1, 0) else ([], (dirC o 9 key [] ([], 0)).2)

set_option maxHeartbeats 4000000 in
set_option maxRecDepth 100000 in
theorem tree13_walk (lv : Value) (o : List Snp) (key : List UInt8) (w : World) (ho : SnpRow w lv o) (hT : ErrT w) (hup : upS (namesR o)) (hol : o.length ≤ 1100000) (hraw : ∀ x ∈ o, x.2.length ≤ 1000000) :
    Calls Tryz.prog 9 #[lv, S key] w fun e w' => ∃ mv, e = .returned (.tuple #[mv, .int .i64 (toldC o key).2]) ∧ ItRow w' mv (toldC o key).1 ∧ Below w.heap.size w w' := by
  have HO := Lib.hid ho
  obtain ⟨la, lc, rfl, -⟩ := ho
  obtain ⟨w1, hw1, hb1, hf1⟩ : ∃ w1, w1 = w.alloc (.cells #[.slice la o.length lc, .slice none 0 0, .int .i64 0] 55) ∧ Below w.heap.size w w1 ∧ w1.heap[w.heap.size]? = some (.cells #[.slice la o.length lc, .slice none 0 0, .int .i64 0] 55 (0, 0)) :=
    ⟨_, rfl, (Below.refl _ _).alloc (Nat.le_refl _) _, heap_alloc_new _ _⟩
  have HS1 : FSt w.heap.size w.heap.size w1 la lc o (.slice none 0 0) ([], 0) := ⟨hf1, World.ownsRow_nil _ _ _ _, Nat.le_refl _⟩
  have C : Calls Tryz.prog 23 #[.pointer (some ⟨w.heap.size, 0, none⟩), S key, .string ⟨#[]⟩] w1 _ := fdir_all w w.heap.size la lc o HO.out hT hup hol hraw 9 key [] ([], 0) (.slice none 0 0) w1 (.inl rfl) rfl hb1 HS1 (by simp) (by simp)
  have HB1 := Lib.hid hb1
  have HTC := Lib.hid (show toldC o key = if (dirC o 9 key [] ([], 0)).2 = 0 then ((dirC o 9 key [] ([], 0)).1.1, 0) else ([], (dirC o 9 key [] ([], 0)).2) from rfl)
  clear hraw hT hb1 hf1 HS1
  generalize dirC o 9 key [] ([], 0) = r at *
  generalize toldC o key = tc at *
  go_enter Tryz.func9, Tryz.ntmps9
  go_upto_region 2 with fail
  rw [← hw1]
  clear hw1
  go_wp2_with fail
  refine C.mono ?_
  rintro e w2 ⟨ev, v2, rfl, hs2, hg2, her⟩
  have HB2 := Lib.hid (show Below w.heap.size w w2 from hg2.base HB1.out HB1.out.size (Nat.le_refl _) (fun j hj => by simp [Value.ownBlock] at hj))
  have HR2 := Lib.hid (show ItRow w2 v2 r.1.1 from Row.of_ownsK itC_len hs2.own)
  rcases her with ⟨hr0, rfl⟩ | ⟨hr0, hmem, g, _, rfl, hg0⟩
  · have HRR := Lib.hid (show tc = (r.1.1, 0) by rw [HTC.out, if_pos hr0])
    have c1 := heap_cell hs2.box (j := 1) (v := v2) rfl
    obtain ⟨ra, rc, rfl⟩ := row_slice HR2.out
    clear C hs2 hg2 hr0
    go_wp2
    go_ret2
    exact ⟨_, by rw [HRR.out]; rfl, by rw [HRR.out]; exact HR2.out, HB2.out⟩
  · have hg := heap_cell hg0 (j := 0) (v := .int .i64 r.2) rfl
    have HRR := Lib.hid (show tc = ([], r.2) by rw [HTC.out, if_neg hr0])
    have CN := fnumber_walk g r.2 w2 hg hmem
    clear C hs2 hg2 hr0 hmem hg0
    go_wp2_with fail
    refine CN.mono ?_
    rintro e w3 ⟨rfl, hb3⟩
    have HB3 := Lib.hid (below_chain HB2.out hb3 HB2.out.size)
    clear CN hb3 hg
    go_wp2
    go_ret2
    exact ⟨_, by rw [HRR.out]; rfl, by rw [HRR.out]; exact Row.nil _ _, HB3.out⟩
end Go.Proofs.YtkejdbidomlonaaGreatDoor

namespace Go.Proofs.YtkejdbidomlonaaGreatDoor
open Go.RowKit

/-- The first texts of a row of pairs. -/
def KeyRow (w : World) (v : Value) (xs : List (List UInt8)) : Prop :=
  ∃ a c, v = .slice a xs.length c ∧ xs.length ≤ c ∧ c ≤ maxLen ∧ (xs = [] ∨ ∃ b o, a = some ⟨b, o, none⟩ ∧ ∀ j (h : j < xs.length), w.cell? ⟨b, o + j * 2, none⟩ = some (S xs[j]))
theorem KeyRow.of {w : World} {v : Value} {l : List Snp} (h : SnpRow w v l) : KeyRow w v (namesR l) := by
  obtain ⟨a, c, hv, hc, hm, hx⟩ := h
  rw [← namesR_len l] at hv hc
  refine ⟨a, c, hv, hc, hm, ?_⟩
  rcases hx with hx | ⟨b, o, ha, hx⟩
  · exact .inl (by rw [hx]; rfl)
  · refine .inr ⟨b, o, ha, fun j hj => ?_⟩
    have hj2 : j < l.length := by rwa [namesR_len] at hj
    rw [(snp_cells hx hj2).1]
    simp [namesR]

set_option maxHeartbeats 1100000 in
set_option maxRecDepth 100000 in
theorem rget_walk (v : Value) (l : List Snp) (n : List UInt8) (w : World) (hr : SnpRow w v l) (hcnt : l.length ≤ 1100000) :
    Calls Tryz.prog 25 #[v, S n] w fun e w' => e = .returned (.tuple #[S (rootOf (findR l n)), .bool (findR l n).isSome]) ∧ Below w.heap.size w w' := by
  obtain ⟨a, c, rfl, hc, hm, hx⟩ := hr
  have HX := Lib.hid hx
  clear hx
  go_enter Tryz.func25, Tryz.ntmps25
  go_wp2
  go_loopw [6] (fun i wr => ∃ k : Nat, k ≤ l.length ∧ i = .int .i64 k ∧ findR (l.take k) n = none ∧ Below w.heap.size w wr) (fun i _ => l.length - (intOf i).toNat)
  case atStart => exact ⟨0, Nat.zero_le _, rfl, rfl, Below.refl _ _⟩
  case round =>
    obtain ⟨k, hk, rfl, ht, hB⟩ := hrel
    have HT := Lib.hid ht
    have HB := Lib.hid hB
    clear ht
    by_cases h1 : k < l.length
    · have hx := HX.out
      rcases hx with hx | ⟨b, o, rfl, hx⟩
      · exfalso; rw [hx] at h1; simp at h1
      obtain ⟨hx1, hx2⟩ := snp_cells hx h1
      have hc1 := cell_below hB hx1
      have hc2 := cell_below hB hx2
      have HE := Lib.hid (fun he : l[k].1 = n => findR_at h1 he HT.out)
      have HN := Lib.hid (fun he : l[k].1 ≠ n => findR_step h1 he HT.out)
      clear hx hx1 hx2 hB
      generalize l[k] = y at *
      obtain ⟨p, q⟩ := y
      have h1' : (k : Int) < (l.length : Int) := by omega
      by_cases hpn : p = n
      · subst hpn
        have HS := Lib.hid (HE.out rfl)
        have hpp : (p == p) = true := by simp
        go_wp2
        go_ret2
        exact ⟨by rw [HS.out]; rfl, HB.out⟩
      · have HS := Lib.hid (HN.out hpn)
        have hpp : (p == n) = false := by rw [beq_eq_false_iff_ne]; exact hpn
        go_wp2
        go_roundw
        case rel => exact ⟨k + 1, by omega, by go_num, HS.out, HB.out⟩
        case measure => simp [intOf]; omega
    · have h1' : ¬ (k : Int) < (l.length : Int) := by omega
      have HK := Lib.hid (show findR l n = none by rw [← HT.out, List.take_of_length_le (by omega)])
      go_wp2
      go_ret2
      exact ⟨by rw [HK.out]; rfl, HB.out⟩


set_option maxHeartbeats 4000000 in
set_option maxRecDepth 100000 in
theorem rfitk_walk (v : Value) (xs : List (List UInt8)) (w : World) (hr : KeyRow w v xs) (hcnt : xs.length ≤ 1100000) :
    Calls Tryz.prog 28 #[v] w fun e w' => e = .returned (.bool (fit5 xs)) ∧ Below w.heap.size w w' := by
  obtain ⟨a, c, rfl, hc, hm, hx⟩ := hr
  have HX := Lib.hid hx
  have HBAD := Lib.hid (fun k h => fit5_bad (l := xs) (k := k) h)
  have HDWN := Lib.hid (fun j h => fit5_down (l := xs) (j := j) h)
  have HALLF := Lib.hid (fun h1 h2 => fit5_all (l := xs) h1 h2)
  generalize fit5 xs = res at *
  clear hx
  go_enter Tryz.func28, Tryz.ntmps28
  go_wp2
  go_loopw [3] (fun i wr => ∃ k : Nat, k ≤ xs.length ∧ i = .int .i64 k ∧ (∀ x ∈ xs.take k, x.length = 32) ∧ upN (xs.take k) = true ∧ Below w.heap.size w wr) (fun i _ => xs.length - (intOf i).toNat)
  case atStart => exact ⟨0, Nat.zero_le _, rfl, by simp, rfl, Below.refl _ _⟩
  case round =>
    obtain ⟨k, hk, rfl, ha, hu, hB⟩ := hrel
    have HA := Lib.hid ha
    have HU := Lib.hid hu
    clear ha hu
    by_cases h1 : k < xs.length
    · have h1' : (k : Int) < (xs.length : Int) := by omega
      have hx := HX.out
      rcases hx with hx | ⟨b, o, rfl, hx⟩
      · exfalso; rw [hx] at h1; simp at h1
      have hc1 := cell_below hB (hx _ h1)
      have HB1 := Lib.hid (HBAD.out k h1)
      have HA1 := Lib.hid (all32_step h1 HA.out)
      by_cases hz : k = 0
      · subst hz
        have HU1 := Lib.hid (fit5_one xs)
        simp only [Nat.zero_mul, Nat.add_zero] at hc1
        have hz0 : ((0 : Nat) : Int) = 0 := rfl
        clear hx
        generalize xs[0] = y at *
        by_cases hl : y.length = 32
        · have hl' : ((y.length : Int) != 32) = false := by rw [bne_eq_false_iff_eq]; omega
          have HS := Lib.hid (HA1.out hl)
          clear hl
          go_wp2
          go_quiet (fail)
          go_wp2
          go_roundw
          case rel => exact ⟨1, by omega, by go_num, HS.out, HU1.out, belowN hB _⟩
          case measure => simp [intOf]; omega
        · have hl' : ((y.length : Int) != 32) = true := by rw [bne_iff_ne]; omega
          have HR := Lib.hid (HB1.out hl)
          clear hl
          go_wp2
          go_quiet (fail)
          go_wp2
          go_ret
          exact ⟨by rw [HR.out]; rfl, belowN hB _⟩
      · obtain ⟨j, rfl⟩ : ∃ j, k = j + 1 := ⟨k - 1, by omega⟩
        have hj : j < xs.length := by omega
        have hc2 := cell_below hB (hx _ hj)
        have HD := Lib.hid (HDWN.out j h1)
        have HUS := Lib.hid (upN_step h1)
        have hwr : IntKind.i64.wrap (j : Int) = (j : Int) := by rw [IntKind.wrap_i64]; omega
        have hpos : (0 : Int) < ((j + 1 : Nat) : Int) := by omega
        have hj' : (j : Int) < (xs.length : Int) := by omega
        clear hx hz
        generalize xs[j + 1] = y at *
        generalize xs[j] = y0 at *
        by_cases hl : y.length = 32
        · have hl' : ((y.length : Int) != 32) = false := by rw [bne_eq_false_iff_eq]; omega
          have HS := Lib.hid (HA1.out hl)
          clear hl
          have hcase : (y0 < y ∧ Op.bytesLess y0 y = true) ∨ (¬ y0 < y ∧ Op.bytesLess y0 y = false) := by
            rw [bytesLess_eq]
            by_cases h : y0 < y
            · exact .inl ⟨h, by simpa using h⟩
            · exact .inr ⟨h, by simpa using h⟩
          rcases hcase with ⟨hlt, hbl⟩ | ⟨hlt, hbl⟩
          · have HU2 := Lib.hid (show upN (xs.take (j + 2)) = true by rw [HUS.out, HU.out]; simp [hlt])
            clear hlt
            go_wp2
            go_quiet (fail)
            go_wp2
            go_roundw
            case rel => exact ⟨j + 2, by omega, by go_num, HS.out, HU2.out, belowN hB _⟩
            case measure => simp [intOf]; omega
          · have HR := Lib.hid (HD.out hlt)
            clear hlt
            go_wp2
            go_quiet (fail)
            go_wp2
            go_ret
            exact ⟨by rw [HR.out]; rfl, belowN hB _⟩
        · have hl' : ((y.length : Int) != 32) = true := by rw [bne_iff_ne]; omega
          have HR := Lib.hid (HB1.out hl)
          clear hl
          go_wp2
          go_quiet (fail)
          go_wp2
          go_ret
          exact ⟨by rw [HR.out]; rfl, belowN hB _⟩
    · have h1' : ¬ (k : Int) < (xs.length : Int) := by omega
      have HR := Lib.hid (HALLF.out (by have e := HA.out; rwa [List.take_of_length_le (by omega)] at e) (by have e := HU.out; rwa [List.take_of_length_le (by omega)] at e))
      go_wp2
      go_ret
      exact ⟨by rw [HR.out]; rfl, hB⟩

theorem rfitO_walk (v : Value) (l : List Snp) (w : World) (hr : SnpRow w v l) (hcnt : l.length ≤ 1100000) :
    Calls Tryz.prog 28 #[v] w fun e w' => e = .returned (.bool (fit5 (namesR l))) ∧ Below w.heap.size w w' :=
  rfitk_walk v (namesR l) w (KeyRow.of hr) (by rw [namesR_len]; exact hcnt)
end Go.Proofs.YtkejdbidomlonaaGreatDoor

namespace Go.Proofs.YtkejdbidomlonaaGreatDoor
open Go.RowKit

structure SmallO (l : List Snp) : Prop where
  len : l.length ≤ 120
  raw : ∀ x ∈ l, x.2.length ≤ 20000
  fit : fit5 (namesR l) = true
  tot : rawsL l ≤ 20000
def SmallPost (l : List Snp) (w : World) (e : Ending) (w' : World) : Prop := ∃ b : Bool, e = .returned (.bool b) ∧ (b = true → SmallO l) ∧ Below w.heap.size w w'
end Go.Proofs.YtkejdbidomlonaaGreatDoor

namespace Go.Proofs.YtkejdbidomlonaaGreatDoor
open Go.RowKit

set_option maxHeartbeats 4000000 in
set_option maxRecDepth 100000 in
theorem small13_walk (v : Value) (l : List Snp) (w : World) (hr : SnpRow w v l) (hlm : l.length ≤ 140737488355328) (hrl : ∀ x ∈ l, x.2.length ≤ 140737488355328) :
    Calls Tryz.prog 14 #[v] w (SmallPost l w) := by
  have HR := Lib.hid hr
  have HRL := Lib.hid hrl
  have HNO := Lib.hid (fun (w' : World) (hB : Below w.heap.size w w') => show SmallPost l w (.returned (.bool false)) w' from ⟨false, rfl, (fun h => by cases h), hB⟩)
  obtain ⟨a, c, rfl, hc, hm, hx⟩ := hr
  have HX := Lib.hid hx
  clear hx hrl
  by_cases h120 : 120 < l.length
  · have h1' : (120 : Int) < (l.length : Int) := by omega
    go_enter Tryz.func14, Tryz.ntmps14
    go_wp2
    go_ret
    exact HNO.out _ (Below.refl _ _)
  have h1' : ¬ (120 : Int) < (l.length : Int) := by omega
  have hlen : l.length ≤ 120 := by omega
  have HLEN := Lib.hid hlen
  go_enter Tryz.func14, Tryz.ntmps14
  go_wp2
  go_loopw [3, 11] (fun t i wr => ∃ k tot : Nat, k ≤ l.length ∧ i = .int .i64 k ∧ t = .int .i64 tot ∧ tot ≤ 20000 ∧ tot = rawsL (l.take k) ∧ (∀ x ∈ l.take k, x.2.length ≤ 20000) ∧ Below w.heap.size w wr) (fun _ i _ => l.length - (intOf i).toNat)
  case atStart => exact ⟨0, 0, Nat.zero_le _, rfl, rfl, by omega, by simp [rawsL], by simp, Below.refl _ _⟩
  case round =>
    obtain ⟨k, tot, hk, rfl, rfl, ht, hsum, hall, hB⟩ := hrel
    have HSUM := Lib.hid hsum
    clear hsum
    have HB := Lib.hid hB
    have HALL := Lib.hid hall
    clear hall
    by_cases h2 : k < l.length
    · have h2' : (k : Int) < (l.length : Int) := by omega
      have hx := HX.out
      rcases hx with hx | ⟨b, o, rfl, hx⟩
      · exfalso; rw [hx] at h2; simp at h2
      obtain ⟨hx1, hx2⟩ := snp_cells hx h2
      have hc1 := cell_below hB hx1
      have hc2 := cell_below hB hx2
      have HTK := Lib.hid (List.take_succ_eq_append_getElem h2)
      have hql := HRL.out l[k] (by simp)
      have HSS := Lib.hid (rawsL_step h2)
      clear hx hx1 hx2 hB
      generalize l[k] = y at *
      obtain ⟨p, q⟩ := y
      simp only at hql
      have hw0 : IntKind.i64.wrap ((tot : Int) + (q.length : Int)) = (tot : Int) + (q.length : Int) := by rw [IntKind.wrap_i64]; omega
      by_cases h3 : 20000 < tot + q.length
      · have h3' : (20000 : Int) < (tot : Int) + (q.length : Int) := by omega
        go_wp2
        go_ret
        exact HNO.out _ (HB.out.alloc HB.out.size _)
      have h3' : ¬ (20000 : Int) < (tot : Int) + (q.length : Int) := by omega
      by_cases h4 : 100 < p.length
      · have h4' : (100 : Int) < (p.length : Int) := by omega
        go_wp2
        go_ret
        exact HNO.out _ (HB.out.alloc HB.out.size _)
      have h4' : ¬ (100 : Int) < (p.length : Int) := by omega
      have HQ := Lib.hid (show q.length ≤ 20000 by omega)
      have HT := Lib.hid (show tot + q.length ≤ 20000 by omega)
      clear h3 h4
      go_wp2
      go_roundw
      case rel =>
        refine ⟨k + 1, tot + q.length, by omega, by go_num, by simp, HT.out, by rw [HSS.out, HSUM.out], ?_, HB.out.alloc HB.out.size _⟩
        rw [HTK.out]
        intro x hx
        rcases List.mem_append.1 hx with hx | hx
        · exact HALL.out x hx
        · rw [List.mem_singleton.1 hx]; exact HQ.out
      case measure => simp [intOf]; omega
    · have h2' : ¬ (k : Int) < (l.length : Int) := by omega
      have CF := rfitO_walk (.slice a l.length c) l wr (HR.out.below hB) (by omega)
      obtain ⟨f, hf⟩ : ∃ f, fit5 (namesR l) = f := ⟨_, rfl⟩
      rw [hf] at CF
      have HP := Lib.hid (fun (w' : World) (hB' : Below w.heap.size w w') => show SmallPost l w (.returned (.bool f)) w' from ⟨f, rfl, (fun h => ⟨HLEN.out, by have := HALL.out; rwa [List.take_of_length_le (by omega)] at this, by rw [hf, h], by have h7 := HSUM.out; rw [List.take_of_length_le (by omega)] at h7; omega⟩), hB'⟩)
      clear hf hB
      go_wp2_with fail
      refine CF.mono ?_
      rintro e w2 ⟨rfl, hb2⟩
      have hB2 := below_chain HB.out hb2 HB.out.size
      go_wp2
      go_ret
      exact HP.out _ hB2
end Go.Proofs.YtkejdbidomlonaaGreatDoor

namespace Go.Proofs.YtkejdbidomlonaaGreatDoor
open Go.RowKit

set_option maxHeartbeats 2000000 in
set_option maxRecDepth 100000 in
theorem rot_walk (x n : Nat) (w : World) (hx : x < 4294967296) (h0 : 0 < n) (hn : n < 32) :
    Calls Tryz.prog 75 #[.int .u32 x, .int .u64 n] w fun e w' => e = .returned (.int .u32 (rotN n x : Nat)) ∧ w' = w := by
  go_enter Tryz.func75, Tryz.ntmps75
  go_wp2
  go_ret
  exact ⟨congrArg (fun z => Ending.returned (Value.int IntKind.u32 z)) (bits_rot (by omega) hx), rfl⟩

set_option maxHeartbeats 4000000 in
set_option maxRecDepth 100000 in
theorem rconst_walk (w : World) :
    Calls Tryz.prog 74 #[] w fun e w' => e = .returned (.agg (kSha.map wV).toArray) ∧ Below w.heap.size w w' := by
  go_enter Tryz.func74, Tryz.ntmps74
  go_upto_region 1 with fail
  generalize hw1 : w.alloc _ = w1
  have hz : w1.heap[w.heap.size]? = some (.cells (Array.replicate 64 (.int .u32 0)) 123 (0, 0)) := by
    rw [← hw1]
    exact heap_alloc_new _ _
  have hb : Below w.heap.size w w1 := by
    rw [← hw1]
    exact (Below.refl _ _).alloc (Nat.le_refl _) _
  clear hw1
  apply wp_region_lit
  refine wpList_build rfl 123 _ rfl (by as_aux_lemma => kernel_rfl) ?_
  refine wpList_store_row rfl 123 _ _ rfl w.heap.size (kSha.map wV).toArray rfl (by as_aux_lemma => kernel_rfl) 123 _ hz (by as_aux_lemma => kernel_rfl) rfl (by as_aux_lemma => kernel_rfl) ?_
  apply wpList_nil
  generalize hw2 : w1.setRow _ _ = w2
  have hz2 : w2.heap[w.heap.size]? = some (.cells (kSha.map wV).toArray 123 (0, 0)) := by
    rw [← hw2]
    exact setRow_heap w1 _ _ _ _ _ hz
  have hb2 : Below w.heap.size w w2 := by
    rw [← hw2]
    exact below_setRow hb (Nat.le_refl _) _
  clear hw2
  rename_i hK
  refine hK _ _ ?_
  apply wp_ret
  exact bodyPost_ret (v := .agg (kSha.map wV).toArray) (results_cell_row rfl _ _ w.heap.size 123 _ _ _ (by as_aux_lemma => kernel_rfl) hz2 Tryz.underlying123 rfl (by as_aux_lemma => kernel_rfl)) rfl ⟨rfl, hb2⟩

set_option maxHeartbeats 4000000 in
set_option maxRecDepth 100000 in
theorem rfirst_walk (w : World) :
    Calls Tryz.prog 47 #[] w fun e w' => e = .returned (.agg (h0Sha.words.map wV).toArray) ∧ Below w.heap.size w w' := by
  go_enter Tryz.func47, Tryz.ntmps47
  go_upto_region 1 with fail
  generalize hw1 : w.alloc _ = w1
  have hz : w1.heap[w.heap.size]? = some (.cells (Array.replicate 8 (.int .u32 0)) 93 (0, 0)) := by
    rw [← hw1]
    exact heap_alloc_new _ _
  have hb : Below w.heap.size w w1 := by
    rw [← hw1]
    exact (Below.refl _ _).alloc (Nat.le_refl _) _
  clear hw1
  apply wp_region_lit
  refine wpList_build rfl 93 _ rfl (by as_aux_lemma => kernel_rfl) ?_
  refine wpList_store_row rfl 93 _ _ rfl w.heap.size (h0Sha.words.map wV).toArray rfl (by as_aux_lemma => kernel_rfl) 93 _ hz (by as_aux_lemma => kernel_rfl) rfl (by as_aux_lemma => kernel_rfl) ?_
  apply wpList_nil
  generalize hw2 : w1.setRow _ _ = w2
  have hz2 : w2.heap[w.heap.size]? = some (.cells (h0Sha.words.map wV).toArray 93 (0, 0)) := by
    rw [← hw2]
    exact setRow_heap w1 _ _ _ _ _ hz
  have hb2 : Below w.heap.size w w2 := by
    rw [← hw2]
    exact below_setRow hb (Nat.le_refl _) _
  clear hw2
  rename_i hK
  refine hK _ _ ?_
  apply wp_ret
  exact bodyPost_ret (v := .agg (h0Sha.words.map wV).toArray) (results_cell_row rfl _ _ w.heap.size 93 _ _ _ (by as_aux_lemma => kernel_rfl) hz2 Tryz.underlying93 rfl (by as_aux_lemma => kernel_rfl)) rfl ⟨rfl, hb2⟩
end Go.Proofs.YtkejdbidomlonaaGreatDoor
