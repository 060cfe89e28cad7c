/- A map from texts to bools that the call makes, in plain words. The reference's Get and Fit of objects. Few objects, of few bytes, that are fit: plain. What rounds keep of an iterator's, and an iterator of the rounds': a box whose row the rounds turn. -/
import Derived.Test.YtaompdnnkfmjhaaGreatDoorJPlain
import Derived.Maps.OwnOps
import Derived.Maps.Views
import Derived.StringKeys
import Derived.Test.YtaompdnnkfmjhaaGreatDoorJKSet
import Derived.Test.YtaompdnnkfmjhaaGreatDoorJUpN
import Derived.Test.YtaompdnnkfmjhaaGreatDoorJCMore
import Derived.Test.YtaompdnnkfmjhaaGreatDoorJRange
import Derived.Test.YtaompdnnkfmjhaaGreatDoorJRowG
namespace Go.Proofs.YtaompdnnkfmjhaaGreatDoor
open Go.RowKit
open Go.Maps (Keyed)
open Go.WideMaps (keyOf_string_mk)

theorem keyStr : Keyed Tryz.prog 9 := Maps.string_keyed Tryz.underlying9
theorem zeroBool (w : World) : (zeroValue 4).run Tryz.prog w = .ok (.bool false) w := by kernel_rfl

/-- Block b is a map of at most n entries; at a key lies f of it. -/
def BMap (w : World) (b n : Nat) (f : List UInt8 → Bool) : Prop :=
  ∃ D : DataW Unit, w.ownsMap Tryz.prog 9 (plainElem Tryz.prog 4) b n D ∧ Maps.IsMap D ∧ ∀ key, D.atKey (.string key) (.lit (.bool false)) = .lit (.bool (f key))

theorem BMap.made (w : World) : BMap (w.alloc (.map #[] 0)) w.heap.size 0 (fun _ => false) :=
  ⟨_, World.ownsMap_made _ _ _ _, Maps.isMap_empty, fun _ => rfl⟩
theorem BMap.kept {w w' : World} {b n : Nat} {f : List UInt8 → Bool} (h : BMap w b n f) (hb : Below w.heap.size w w') : BMap w' b n f := by
  obtain ⟨D, h1, h2, h3⟩ := h
  exact ⟨D, h1.kept (⟨hb.os, hb.tape, hb.output, hb.size, fun k hk _ => hb.block k hk⟩ : w.grownBy w' none) (by simp), h2, h3⟩
theorem BMap.lt {w : World} {b n : Nat} {f : List UInt8 → Bool} (h : BMap w b n f) : b < w.heap.size := by
  obtain ⟨D, h1, _⟩ := h; exact h1.lt
set_option maxRecDepth 100000 in
theorem plainElem_bool_inv {v : Value} {x : Bool} {ps : List MemPlace} (h : plainElem (H := Unit) Tryz.prog 4 v = some (.lit (.bool x), ps)) : v = .bool x := by
  unfold plainElem at h
  rw [Tryz.underlying4] at h
  cases v <;> simp at h
  rw [h.1]
theorem BMap.look {w : World} {b n : Nat} {f : List UInt8 → Bool} (h : BMap w b n f) {T : TypeId} (ht : Tryz.prog.underlying T = some (.map 9 4)) {key : List UInt8} (hk : key.length ≤ maxLen) :
    (Instr.lookup T (.map (some b)) (S key) false).run Tryz.prog w = .ok (.bool (f key)) w := by
  obtain ⟨D, h1, _, h3⟩ := h
  obtain ⟨v, ps, hrun, hv⟩ := h1.lookup keyStr ht (zeroBool w) (plainElem_bool Tryz.underlying4 false) (keyOf_string_mk Tryz.underlying9 (s := ⟨key.toArray⟩) hk)
  rw [h3] at hv
  rw [hrun, plainElem_bool_inv hv]
theorem BMap.update {w : World} {b n : Nat} {f : List UInt8 → Bool} (h : BMap w b n f) {T : TypeId} (ht : Tryz.prog.underlying T = some (.map 9 4)) (hn : n < maxLen) {key : List UInt8} (hk : key.length ≤ maxLen) (x : Bool) :
    ∃ w', (Instr.mapUpdate T (.map (some b)) (S key) (.bool x)).run Tryz.prog w = .ok () w' ∧ BMap w' b (n + 1) (fun k => if k = key then x else f k) ∧ w.grownBy w' (some b) := by
  obtain ⟨D, h1, h2, h3⟩ := h
  obtain ⟨w', hrun, hown, hg⟩ := h1.update keyStr ht hn (keyOf_string_mk Tryz.underlying9 (s := ⟨key.toArray⟩) hk) (plainElem_bool Tryz.underlying4 x)
  refine ⟨w', hrun, ⟨_, hown, h2.put _ _, fun k => ?_⟩, hg⟩
  show (D.put (Lit.string key) (DataW.lit (Lit.bool x))).atKey (Lit.string k) (DataW.lit (Lit.bool false)) = DataW.lit (Lit.bool (if k = key then x else f k))
  by_cases hkk : k = key
  · subst hkk
    rw [if_pos rfl]
    exact Maps.atKey_put_same h2 (by trivial) _ _
  · rw [if_neg hkk, Maps.atKey_put_other (by intro e; exact hkk (by simpa using e)), h3]
theorem wpList_bmap_update {P : Program} (hP : P = Tryz.prog) (w : World) {ops : Array Oper} {rest : List Oper} {o : Oper} {a : Act} {Q : Exit → Act → World → Prop}
    (hg : o.guard = none) (m x v : Operand) (t : TypeId) (hop : o.op = Op.mapUpdate t m x v ∨ o.op = Op.insert t m x v) (ht : Tryz.prog.underlying t = some (.map 9 4))
    {b n : Nat} {f : List UInt8 → Bool} (h : BMap w b n f) (hn : n < maxLen) (key : List UInt8) (hk : key.length ≤ maxLen) (y : Bool) (hm : a.eval m = .map (some b)) (hx : a.eval x = S key) (hv : a.eval v = .bool y)
    (hK : ∀ w', BMap w' b (n + 1) (fun k => if k = key then y else f k) → w.grownBy w' (some b) → wpList P ops Q rest (a.put o.dst undef) w') : wpList P ops Q (o :: rest) a w := by
  subst hP
  refine wpList_plain hg fun K' hK' => ?_
  obtain ⟨w', hrun, r1, r2⟩ := h.update ht hn hk y
  unfold Oper.wp
  rcases hop with hop | hop
  · simp [execOp, hop, hm, hx, hv, hrun, Result.andThen]
    exact hK' _ _ (hK w' r1 r2)
  · simp [execOp, hop, hm, hx, hv, hrun, Result.andThen]
    exact hK' _ _ (hK w' r1 r2)
end Go.Proofs.YtaompdnnkfmjhaaGreatDoor

namespace Go.Proofs.YtaompdnnkfmjhaaGreatDoor
open Go.RowKit

/-- The first texts of a row of pairs. -/
def KeyRow (w : World) (v : Value) (xs : List (List UInt8)) : Prop :=
  ∃ a c, v = .slice a xs.length c ∧ xs.length ≤ c ∧ c ≤ maxLen ∧ (xs = [] ∨ ∃ b o, a = some ⟨b, o, none⟩ ∧ ∀ j (h : j < xs.length), w.cell? ⟨b, o + j * 2, none⟩ = some (S xs[j]))
theorem KeyRow.of {w : World} {v : Value} {l : List Snp} (h : SnpRow w v l) : KeyRow w v (namesR l) := by
  obtain ⟨a, c, hv, hc, hm, hx⟩ := h
  rw [← namesR_len l] at hv hc
  refine ⟨a, c, hv, hc, hm, ?_⟩
  rcases hx with hx | ⟨b, o, ha, hx⟩
  · exact .inl (by rw [hx]; rfl)
  · refine .inr ⟨b, o, ha, fun j hj => ?_⟩
    have hj2 : j < l.length := by rwa [namesR_len] at hj
    rw [(snp_cells hx hj2).1]
    simp [namesR]

set_option maxHeartbeats 1100000 in
set_option maxRecDepth 100000 in
theorem rget_walk (v : Value) (l : List Snp) (n : List UInt8) (w : World) (hr : SnpRow w v l) (hcnt : l.length ≤ 1100000) :
    Calls Tryz.prog 12 #[v, S n] w fun e w' => e = .returned (.tuple #[S (rootOf (findR l n)), .bool (findR l n).isSome]) ∧ Below w.heap.size w w' := by
  obtain ⟨a, c, rfl, hc, hm, hx⟩ := hr
  have HX := Lib.hid hx
  clear hx
  go_enter Tryz.func12, Tryz.ntmps12
  go_wp2
  go_loopw [6] (fun i wr => ∃ k : Nat, k ≤ l.length ∧ i = .int .i64 k ∧ findR (l.take k) n = none ∧ Below w.heap.size w wr) (fun i _ => l.length - (intOf i).toNat)
  case atStart => exact ⟨0, Nat.zero_le _, rfl, rfl, Below.refl _ _⟩
  case round =>
    obtain ⟨k, hk, rfl, ht, hB⟩ := hrel
    have HT := Lib.hid ht
    have HB := Lib.hid hB
    clear ht
    by_cases h1 : k < l.length
    · have hx := HX.out
      rcases hx with hx | ⟨b, o, rfl, hx⟩
      · exfalso; rw [hx] at h1; simp at h1
      obtain ⟨hx1, hx2⟩ := snp_cells hx h1
      have hc1 := cell_below hB hx1
      have hc2 := cell_below hB hx2
      have HE := Lib.hid (fun he : l[k].1 = n => findR_at h1 he HT.out)
      have HN := Lib.hid (fun he : l[k].1 ≠ n => findR_step h1 he HT.out)
      clear hx hx1 hx2 hB
      generalize l[k] = y at *
      obtain ⟨p, q⟩ := y
      have h1' : (k : Int) < (l.length : Int) := by omega
      by_cases hpn : p = n
      · subst hpn
        have HS := Lib.hid (HE.out rfl)
        have hpp : (p == p) = true := by simp
        go_wp2
        go_ret2
        exact ⟨by rw [HS.out]; rfl, HB.out⟩
      · have HS := Lib.hid (HN.out hpn)
        have hpp : (p == n) = false := by rw [beq_eq_false_iff_ne]; exact hpn
        go_wp2
        go_roundw
        case rel => exact ⟨k + 1, by omega, by go_num, HS.out, HB.out⟩
        case measure => simp [intOf]; omega
    · have h1' : ¬ (k : Int) < (l.length : Int) := by omega
      have HK := Lib.hid (show findR l n = none by rw [← HT.out, List.take_of_length_le (by omega)])
      go_wp2
      go_ret2
      exact ⟨by rw [HK.out]; rfl, HB.out⟩


set_option maxHeartbeats 4000000 in
set_option maxRecDepth 100000 in
theorem rfitk_walk (v : Value) (xs : List (List UInt8)) (w : World) (hr : KeyRow w v xs) (hcnt : xs.length ≤ 1100000) :
    Calls Tryz.prog 27 #[v] w fun e w' => e = .returned (.bool (fit5 xs)) ∧ Below w.heap.size w w' := by
  obtain ⟨a, c, rfl, hc, hm, hx⟩ := hr
  have HX := Lib.hid hx
  have HBAD := Lib.hid (fun k h => fit5_bad (l := xs) (k := k) h)
  have HDWN := Lib.hid (fun j h => fit5_down (l := xs) (j := j) h)
  have HALLF := Lib.hid (fun h1 h2 => fit5_all (l := xs) h1 h2)
  generalize fit5 xs = res at *
  clear hx
  go_enter Tryz.func27, Tryz.ntmps27
  go_wp2
  go_loopw [3] (fun i wr => ∃ k : Nat, k ≤ xs.length ∧ i = .int .i64 k ∧ (∀ x ∈ xs.take k, x.length = 32) ∧ upN (xs.take k) = true ∧ Below w.heap.size w wr) (fun i _ => xs.length - (intOf i).toNat)
  case atStart => exact ⟨0, Nat.zero_le _, rfl, by simp, rfl, Below.refl _ _⟩
  case round =>
    obtain ⟨k, hk, rfl, ha, hu, hB⟩ := hrel
    have HA := Lib.hid ha
    have HU := Lib.hid hu
    clear ha hu
    by_cases h1 : k < xs.length
    · have h1' : (k : Int) < (xs.length : Int) := by omega
      have hx := HX.out
      rcases hx with hx | ⟨b, o, rfl, hx⟩
      · exfalso; rw [hx] at h1; simp at h1
      have hc1 := cell_below hB (hx _ h1)
      have HB1 := Lib.hid (HBAD.out k h1)
      have HA1 := Lib.hid (all32_step h1 HA.out)
      by_cases hz : k = 0
      · subst hz
        have HU1 := Lib.hid (fit5_one xs)
        simp only [Nat.zero_mul, Nat.add_zero] at hc1
        have hz0 : ((0 : Nat) : Int) = 0 := rfl
        clear hx
        generalize xs[0] = y at *
        by_cases hl : y.length = 32
        · have hl' : ((y.length : Int) != 32) = false := by rw [bne_eq_false_iff_eq]; omega
          have HS := Lib.hid (HA1.out hl)
          clear hl
          go_wp2
          go_quiet (fail)
          go_wp2
          go_roundw
          case rel => exact ⟨1, by omega, by go_num, HS.out, HU1.out, belowN hB _⟩
          case measure => simp [intOf]; omega
        · have hl' : ((y.length : Int) != 32) = true := by rw [bne_iff_ne]; omega
          have HR := Lib.hid (HB1.out hl)
          clear hl
          go_wp2
          go_quiet (fail)
          go_wp2
          go_ret
          exact ⟨by rw [HR.out]; rfl, belowN hB _⟩
      · obtain ⟨j, rfl⟩ : ∃ j, k = j + 1 := ⟨k - 1, by omega⟩
        have hj : j < xs.length := by omega
        have hc2 := cell_below hB (hx _ hj)
        have HD := Lib.hid (HDWN.out j h1)
        have HUS := Lib.hid (upN_step h1)
        have hwr : IntKind.i64.wrap (j : Int) = (j : Int) := by rw [IntKind.wrap_i64]; omega
        have hpos : (0 : Int) < ((j + 1 : Nat) : Int) := by omega
        have hj' : (j : Int) < (xs.length : Int) := by omega
        clear hx hz
        generalize xs[j + 1] = y at *
        generalize xs[j] = y0 at *
        by_cases hl : y.length = 32
        · have hl' : ((y.length : Int) != 32) = false := by rw [bne_eq_false_iff_eq]; omega
          have HS := Lib.hid (HA1.out hl)
          clear hl
          have hcase : (y0 < y ∧ Op.bytesLess y0 y = true) ∨ (¬ y0 < y ∧ Op.bytesLess y0 y = false) := by
            rw [bytesLess_eq]
            by_cases h : y0 < y
            · exact .inl ⟨h, by simpa using h⟩
            · exact .inr ⟨h, by simpa using h⟩
          rcases hcase with ⟨hlt, hbl⟩ | ⟨hlt, hbl⟩
          · have HU2 := Lib.hid (show upN (xs.take (j + 2)) = true by rw [HUS.out, HU.out]; simp [hlt])
            clear hlt
            go_wp2
            go_quiet (fail)
            go_wp2
            go_roundw
            case rel => exact ⟨j + 2, by omega, by go_num, HS.out, HU2.out, belowN hB _⟩
            case measure => simp [intOf]; omega
          · have HR := Lib.hid (HD.out hlt)
            clear hlt
            go_wp2
            go_quiet (fail)
            go_wp2
            go_ret
            exact ⟨by rw [HR.out]; rfl, belowN hB _⟩
        · have hl' : ((y.length : Int) != 32) = true := by rw [bne_iff_ne]; omega
          have HR := Lib.hid (HB1.out hl)
          clear hl
          go_wp2
          go_quiet (fail)
          go_wp2
          go_ret
          exact ⟨by rw [HR.out]; rfl, belowN hB _⟩
    · have h1' : ¬ (k : Int) < (xs.length : Int) := by omega
      have HR := Lib.hid (HALLF.out (by have e := HA.out; rwa [List.take_of_length_le (by omega)] at e) (by have e := HU.out; rwa [List.take_of_length_le (by omega)] at e))
      go_wp2
      go_ret
      exact ⟨by rw [HR.out]; rfl, hB⟩

theorem rfitO_walk (v : Value) (l : List Snp) (w : World) (hr : SnpRow w v l) (hcnt : l.length ≤ 1100000) :
    Calls Tryz.prog 27 #[v] w fun e w' => e = .returned (.bool (fit5 (namesR l))) ∧ Below w.heap.size w w' :=
  rfitk_walk v (namesR l) w (KeyRow.of hr) (by rw [namesR_len]; exact hcnt)
end Go.Proofs.YtaompdnnkfmjhaaGreatDoor

namespace Go.Proofs.YtaompdnnkfmjhaaGreatDoor
open Go.RowKit

structure SmallO (l : List Snp) : Prop where
  len : l.length ≤ 120
  raw : ∀ x ∈ l, x.2.length ≤ 20000
  fit : fit5 (namesR l) = true
  tot : rawsL l ≤ 20000
def SmallPost (l : List Snp) (w : World) (e : Ending) (w' : World) : Prop := ∃ b : Bool, e = .returned (.bool b) ∧ (b = true → SmallO l) ∧ Below w.heap.size w w'
end Go.Proofs.YtaompdnnkfmjhaaGreatDoor

namespace Go.Proofs.YtaompdnnkfmjhaaGreatDoor
open Go.RowKit

/-- The block of the row in box bo. -/
def outB (bo : Nat) (A : World) : Option Nat := (A.cell? ⟨bo, 0, none⟩).bind Value.ownBlock
theorem outB_box {bo t : Nat} {A : World} {v : Value} (h : Boxed A bo t v) : outB bo A = v.ownBlock := by
  unfold outB; rw [h.cell]; rfl
theorem outB_same {bo : Nat} {A B : World} (h : B.heap[bo]? = A.heap[bo]?) : outB bo B = outB bo A := by
  unfold outB; rw [World.cell?_of_block (a := ⟨bo, 0, none⟩) h]

/-- What rounds keep that turn boxes bo, ba, block lp, and the row in bo. -/
structure KpF (bo ba lp : Nat) (A B : World) : Prop where
  size : A.heap.size ≤ B.heap.size
  old : ∀ k, k < A.heap.size → k ≠ bo → k ≠ ba → k ≠ lp → outB bo A ≠ some k → B.heap[k]? = A.heap[k]?
  own : outB bo B = outB bo A ∨ ∃ g, outB bo B = some g ∧ A.heap.size ≤ g
  lt : (∀ g, outB bo A = some g → g < A.heap.size) → ∀ g, outB bo B = some g → g < B.heap.size
section
variable {bo ba lp : Nat}
theorem KpF.trans {A B C : World} (h : KpF bo ba lp A B) (k : KpF bo ba lp B C) : KpF bo ba lp A C := by
  refine ⟨Nat.le_trans h.size k.size, fun i hi h1 h2 h3 h4 => ?_, ?_, fun h0 => k.lt (h.lt h0)⟩
  · refine (k.old i (by have := h.size; omega) h1 h2 h3 ?_).trans (h.old i hi h1 h2 h3 h4)
    rcases h.own with e | ⟨g, e, hg⟩
    · rw [e]; exact h4
    · rw [e]; intro h5; cases h5; omega
  · rcases k.own with e | ⟨g, e, hg⟩
    · rw [e]; exact h.own
    · exact .inr ⟨g, e, Nat.le_trans h.size hg⟩
theorem KpF.put {W : World} (o : Obj) (h : bo ≠ lp) : KpF bo ba lp W (W.putObj lp o) := by
  have e : outB bo (W.putObj lp o) = outB bo W := outB_same (World.putObj_heap_other (by omega))
  exact ⟨by simp, fun k _ _ _ h3 _ => World.putObj_heap_other (by omega), .inl e, fun h0 g hg => by rw [e] at hg; have := h0 g hg; simpa using this⟩
/-- Steps that turn none but blocks from w's size on. -/
theorem KpF.grown {w A B : World} {row : Option Nat} (h : KpF bo ba lp w A) (hg : A.grownBy B row) (hr : ∀ r, row = some r → w.heap.size ≤ r) (hb : bo < w.heap.size) : KpF bo ba lp w B := by
  have hs := hg.size
  have h0 := h.size
  have hk : ∀ k, k < w.heap.size → B.heap[k]? = A.heap[k]? := fun k hk => hg.block k (by omega) (fun e => by have := hr k e.symm; omega)
  have e : outB bo B = outB bo A := outB_same (hk bo hb)
  refine ⟨by omega, fun k h1 h2 h3 h4 h5 => (hk k h1).trans (h.old k h1 h2 h3 h4 h5), by rw [e]; exact h.own, fun h1 g h2 => ?_⟩
  rw [e] at h2
  have := h.lt h1 g h2
  omega
theorem KpF.refl {A : World} (hn : ∀ g, outB bo A = some g → g < A.heap.size) : KpF bo ba lp A A := ⟨Nat.le_refl _, fun _ _ _ _ _ _ => rfl, .inl rfl, fun _ => hn⟩
end
theorem grown_of_belowF {A B : World} (h : Below A.heap.size A B) : A.grownBy B none := ⟨h.os, h.tape, h.output, h.size, fun k hk _ => h.block k hk⟩
/-- The first blocks are as they were. -/
def KpO (n₀ : Nat) (A B : World) : Prop := ∀ k, k < n₀ → B.heap[k]? = A.heap[k]?
theorem KpF.first {bo ba lp n₀ : Nat} {w A B : World} (h : KpF bo ba lp A B) (h1 : n₀ ≤ bo) (h2 : n₀ ≤ ba) (h3 : n₀ ≤ lp) (h4 : outB bo A = none) (h5 : n₀ ≤ A.heap.size) (h0 : KpO n₀ w A) : KpO n₀ w B :=
  fun k hk => (h.old k (by omega) (by omega) (by omega) (by omega) (by rw [h4]; simp)).trans (h0 k hk)
theorem KpO.str {n₀ : Nat} {w W : World} (h : KpO n₀ w W) (hs : w.heap.size = n₀) {v : Value} {xs : List (List UInt8)} (hr : StrRow w v xs) : StrRow W v xs := by
  obtain ⟨a, c, hv, hc, hm, hx⟩ := hr
  refine ⟨a, c, hv, hc, hm, hx.imp id fun ⟨b, o, ha, hx⟩ => ⟨b, o, ha, fun j x hj => ?_⟩⟩
  have h1 := hx j x hj
  exact (World.cell?_of_block (a := ⟨b, o + j, none⟩) (h b (by have := lt_of_cell h1; omega))).trans h1
theorem KpO.snp {n₀ : Nat} {w W : World} (h : KpO n₀ w W) (hs : w.heap.size = n₀) {v : Value} {xs : List Snp} (hr : SnpRow w v xs) : SnpRow W v xs := by
  obtain ⟨a, c, hv, hc, hm, hx⟩ := hr
  refine ⟨a, c, hv, hc, hm, hx.imp id fun ⟨b, o, ha, hx⟩ => ⟨b, o, ha, fun j y hj i u hu => ?_⟩⟩
  have h1 := hx j y hj i u hu
  exact (World.cell?_of_block (a := ⟨b, _, none⟩) (h b (by have := lt_of_cell h1; omega))).trans h1
theorem own_block {w w' : World} {B e K n : Nat} {v : Value} {xs : List Value} (h : w.ownsRow B e K v n xs) (hk : ∀ g, v.ownBlock = some g → w'.heap[g]? = w.heap[g]?) : w'.ownsRow B e K v n xs := by
  obtain ⟨h1, h2⟩ := h
  refine ⟨h1, ?_⟩
  rcases h2 with h2 | ⟨g, cap, cur, rfl, hb, hg, h3⟩
  · exact .inl h2
  · exact .inr ⟨g, cap, cur, rfl, hb, (hk g rfl).trans hg, h3⟩
theorem BMap.block {w w' : World} {b n : Nat} {f : List UInt8 → Bool} (h : BMap w b n f) (hb : w'.heap[b]? = w.heap[b]?) : BMap w' b n f := by
  obtain ⟨D, ⟨es, clock, h1, h2⟩, h3⟩ := h
  exact ⟨D, ⟨es, clock, hb.trans h1, h2⟩, h3⟩
/-- A row of the call's own is no map. -/
theorem BMap.apart {w : World} {b n : Nat} {f : List UInt8 → Bool} (h : BMap w b n f) {B e K m : Nat} {v : Value} {xs : List Value} (hr : w.ownsRow B e K v m xs) : v.ownBlock ≠ some b := by
  obtain ⟨D, ⟨es, clock, h1, h2⟩, h3⟩ := h
  intro hv
  rcases hr.2 with ⟨rfl, _⟩ | ⟨g, cap, cur, rfl, hb, hg, _⟩
  · simp [Value.ownBlock] at hv
  · simp [Value.ownBlock] at hv
    subst hv
    rw [h1] at hg; cases hg
theorem BMap.le {w : World} {b n m : Nat} {f : List UInt8 → Bool} (h : BMap w b n f) (hm : n ≤ m) : BMap w b m f := by
  obtain ⟨D, ⟨es, clock, h1, h2, h3, h4⟩, h5⟩ := h
  exact ⟨D, ⟨es, clock, h1, h2, Nat.le_trans h3 hm, h4⟩, h5⟩
theorem BMap.as {w : World} {b n : Nat} {f g : List UInt8 → Bool} (h : BMap w b n f) (hfg : ∀ k, f k = g k) : BMap w b n g := by
  obtain rfl : f = g := funext hfg
  exact h

/-- The iterator's own behind a round. -/
theorem keepF {bo ba lp N mb m n e : Nat} {wr w4 w5 : World} {qv : Value} {f : List UInt8 → Bool} {xs : List Value} (hb : Below wr.heap.size wr w4) (hk : KpF bo ba lp w4 w5) (hbo : bo < N) (hba : ba < N) (hlp : lp < N) (hmb : N ≤ mb) (hbw : bo < wr.heap.size)
    (hmap : BMap wr mb m f) (hown : wr.ownsRow N e 1 qv n xs) (hsep : ∀ g, outB bo wr = some g → g ≠ mb ∧ qv.ownBlock ≠ some g) :
    BMap w5 mb m f ∧ w5.ownsRow N e 1 qv n xs ∧ (∀ g, outB bo w5 = some g → g ≠ mb ∧ qv.ownBlock ≠ some g) := by
  have ho : outB bo w4 = outB bo wr := outB_same (hb.block bo hbw)
  have hs := hb.size
  have hml := hmap.lt
  have hql := hown.lt
  refine ⟨hmap.block ((hk.old mb (by omega) (by omega) (by omega) (by omega) ?_).trans (hb.block mb hml)), own_block hown (fun g hg => (hk.old g (by have := (hql g hg).2; omega) (by have := (hql g hg).1; omega) (by have := (hql g hg).1; omega) (by have := (hql g hg).1; omega) ?_).trans (hb.block g (hql g hg).2)), fun g hg => ?_⟩
  · rw [ho]; intro h; exact (hsep _ h).1 rfl
  · rw [ho]; intro h; exact (hsep _ h).2 hg
  · rcases hk.own with h | ⟨g', h, hg'⟩
    · rw [h, ho] at hg; exact hsep g hg
    · rw [h] at hg
      cases hg
      exact ⟨by omega, fun h2 => by have := (hql _ h2).2; omega⟩
theorem keepNew {bo ba lp N j : Nat} {wr w4 w5 : World} (hb : Below wr.heap.size wr w4) (hk : KpF bo ba lp w4 w5) (hbo : bo < N) (hba : ba < N) (hlp : lp < N) (hN : N ≤ wr.heap.size) (hlt : ∀ g, outB bo wr = some g → g < wr.heap.size)
    (h1 : wr.heap.size ≤ j) (h2 : j < w4.heap.size) : w5.heap[j]? = w4.heap[j]? := by
  refine hk.old j h2 (by omega) (by omega) (by omega) ?_
  rw [outB_same (hb.block bo (by omega))]
  intro h
  have := hlt _ h
  omega

/-- Behind an append in a fence: where the row lies. -/
theorem wpListIn_append_sep {F : Fence} {n' : Nat} {P : Program} (w : World) {ops : Array Oper} {rest : List Oper} {o : Oper} {a : Act} {Q : Exit → Act → World → Prop} (hgd : o.guard = none) (s x : Operand) (t : TypeId)
    (ho : o.op = .call { callee := .builtin .append, args := #[s, x], argTypes := #[t, t] })
    (base : Nat) (e : TypeId) (i : TypeInfo) (z : Value) (size bytes : Nat) (ht : P.underlying t = some (.slice e)) (hi : P.info? e = some i) (hz : i.zero = some z)
    (hsize : i.size = size) (hby : i.bytes = bytes) (hzs : z.cells.size = size) (hsz : 0 < size)
    (v : Value) (n : Nat) (xs : List Value) (hs : a.eval s = v) (hown : w.ownsRow base e size v n xs)
    (ad : Addr) (m c : Nat) (news : List Value) (hx : a.eval x = .slice (some ad) m c) (hl : news.length = m * size) (hnews : ∀ j u, news[j]? = some u → w.cell? (ad.add j) = some u) (h1 : ∀ u ∈ news, u.oneCell' = true)
    (h63 : n + m ≤ maxLen) (hbytes : (n + m) * bytes ≤ 140737488355328) (hbase : base ≤ w.heap.size) (hm : 0 < m)
    (h : ∀ v' w', w'.ownsRow base e size v' (n + m) (xs ++ news) → w.grownBy w' v.ownBlock → (v'.ownBlock = v.ownBlock ∨ v'.ownBlock = some w.heap.size) → wpListIn F n' P ops Q rest (a.put o.dst v') w') : wpListIn F n' P ops Q (o :: rest) a w := by
  refine wpListIn_plain hgd fun K hK => ?_
  obtain ⟨v', w', hr, h2, h3, h4⟩ := run_append_sep (P := P) w base t o.type e i z size bytes ht hi hz hsize hby hzs hsz v n xs hown ad m c news hl hnews h1 h63 hbytes hbase hm
  unfold Oper.wpIn
  refine ⟨?_, ?_⟩
  · simp [Oper.about, ho, resolve, Target.leads, Sem.run_pure]
  · rw [Oper.semAt_plain F _ _ (by rw [ho]; intro c hc'; cases hc')]
    simp [execOp, ho, resolve, invoke, builtin, hs, hx, hr, Result.andThen]
    exact hK _ _ (h v' w' h2 h3 h4)
end Go.Proofs.YtaompdnnkfmjhaaGreatDoor
