/- Rows of bytes as texts. strings.IndexRune, IndexAny, ContainsAny at the two signs that no name bears, at every text. varint.groups and Take: a range over a function. -/
import Derived.Test.YtaompdnnkfmjhaaGreatDoorJMapI
import Derived.Test.YtaompdnnkfmjhaaGreatDoorJRange
import Derived.Test.YtaompdnnkfmjhaaGreatDoorShelf
import Derived.Laws.RangeAny
import Derived.Laws.RangeString
import Derived.Laws.Runes
import Derived.Deep.LoopGhost
import Derived.WalkMore
import Derived.Lib.OthersKept
import Derived.Lib.IndexAny
import Derived.Test.YtaompdnnkfmjhaaGreatDoorJRowG
import Derived.Maps.AppendAt
import Derived.RangeFuncBox
namespace Go.Proofs.YtaompdnnkfmjhaaGreatDoor
open Go.RowKit

theorem infoByte : (Tryz.prog.info? 5).map (fun i => (i.zero, i.size, i.bytes)) = some (some (.int .u8 0), 1, 1) := by kernel_rfl

/-- A row of bytes that the call made, as a text. -/
theorem bytes_back {W : World} {base : Nat} {v : Value} {l : List UInt8} (h : W.ownsRow base 5 1 v l.length (Lib.byteCells l)) : (convert 113 9 v).run Tryz.prog W = .ok (.string ⟨l.toArray⟩) W := by
  obtain ⟨_, h⟩ := h
  rcases h with ⟨rfl, hn⟩ | ⟨g, cap, cur, rfl, _, hh, hc, hm, hs, ht⟩
  · have : l = [] := List.length_eq_zero_iff.1 hn
    subst this
    exact run_convert_bytes_nil W 113 5 Tryz.underlying113 Tryz.underlying5 0 0 9 Tryz.underlying9
  · refine run_convert_bytes_back W _ _ 5 _ _ l Tryz.underlying113 Tryz.underlying5 Tryz.underlying9 fun j hj => ?_
    have h1 : cur.toList[j]? = some (.int .u8 (l[j].toNat : Int)) := by
      have : (cur.toList.take (l.length * 1))[j]? = some (.int .u8 (l[j].toNat : Int)) := by rw [ht]; simp [Lib.byteCells, hj]
      rw [List.getElem?_take] at this
      split at this
      · exact this
      · cases this
    have e : ((⟨g, 0, none⟩ : Addr).add j) = ⟨g, j, none⟩ := by by_cases h0 : j = 0 <;> simp [Addr.add, h0]
    rw [e]
    simp only [World.cell?, hh]
    simpa using h1
end Go.Proofs.YtaompdnnkfmjhaaGreatDoor

namespace Go.Proofs.YtaompdnnkfmjhaaGreatDoor
open Go.RowKit Go.Lib

/-- string(r) of a rune beyond ASCII: two bytes or more, the second 128 or more. -/
theorem encode_big (r : Int) (h0 : 128 ≤ r) : ∃ x y : UInt8, ∃ t : List UInt8, Utf8.encode r = ⟨(x :: y :: t).toArray⟩ ∧ 128 ≤ y.toNat ∧ t.length ≤ 2 := by
  unfold Utf8.encode
  simp only []
  generalize hc : (if Utf8.valid r = true then r.toNat else Utf8.runeError) = c
  have h128 : 128 ≤ c := by
    subst hc; split
    · omega
    · decide
  have hm : ∀ n : Nat, 128 ≤ (UInt8.ofNat (0x80 + n % 64)).toNat := fun n => by
    rw [UInt8.toNat_ofNat']; omega
  rw [if_neg (by omega)]
  split
  · exact ⟨_, _, [], rfl, hm _, by simp⟩
  · split
    · exact ⟨_, _, [_], rfl, hm _, by simp⟩
    · exact ⟨_, _, [_, _], rfl, hm _, by simp⟩

set_option maxHeartbeats 2000000 in
set_option maxRecDepth 1100000 in
theorem irune_big (r : Int) (w : World) (h0 : 128 ≤ r) (hne : r ≠ 65533) :
    Calls Tryz.prog 161 #[S [0, 47], .int .i32 r] w fun e w' => e = .returned (.int .i64 (-1)) ∧ Below w.heap.size w w' := by
  obtain ⟨x, y, t, he, hy, ht⟩ := encode_big r h0
  have h1 : ¬ r < 128 := by omega
  have h2 : (r == 65533) = false := by rw [beq_eq_false_iff_ne]; exact hne
  have h3 : (0 : Int) ≤ r := by omega
  have HE := Lib.hid he
  cases hv : Lib.validRune r
  · go_enter Tryz.func161, Tryz.ntmps161
    go_wp2_with (go_at_call 166; refine (Tryz.utf8_ValidRune _ _).mono ?_; rintro e w' ⟨rfl, hw⟩; rw [hw, hv])
    go_ret
    exact ⟨rfl, Below.refl _ _⟩
  · cases t with
    | nil =>
      have hq : (((({ data := #[0, 47] } : ByteArray)[1]'(by decide)).toNat : Int) != ((({ data := #[x, y] } : ByteArray)[1]'(by show 1 < 2; omega)).toNat : Int)) = true := by
        rw [bne_iff_ne]; show (47 : Int) ≠ (y.toNat : Int); omega
      go_enter Tryz.func161, Tryz.ntmps161
      go_wp2_with (go_at_call 166; refine (Tryz.utf8_ValidRune _ _).mono ?_; rintro e w' ⟨rfl, hw⟩; rw [hw, hv])
      go_step3
      go_wp2
      refine wp_loop_rounds 1 ?_; rw [rounds_succ]
      go_wp2
      go_step3
      go_wp2
      go_quiet (fail)
      go_wp2
      have HB9 := Lib.hid (belowN (Below.refl w.heap.size w) nq)
      generalize w.drewN nq = w9 at *
      go_quiet ((go_at_call 165; exact Calls.quiet_of_same (Tryz.strings_IndexByte _ _ _)))
      go_wp2
      rw [Exit.noGoto_ret]
      simp only [Exit.inBlock, Exit.then]
      rw [Exit.noGoto_ret]
      go_ret
      exact ⟨rfl, belowN HB9.out _⟩
    | cons z t =>
      have ht' : t.length ≤ 1 := by simp at ht; omega
      go_enter Tryz.func161, Tryz.ntmps161
      go_wp2_with (go_at_call 166; refine (Tryz.utf8_ValidRune _ _).mono ?_; rintro e w' ⟨rfl, hw⟩; rw [hw, hv])
      go_step3
      go_wp2
      refine wp_loop_rounds 1 ?_; rw [rounds_succ]
      go_wp2
      rw [Exit.noGoto_ret]
      go_ret
      exact ⟨rfl, Below.refl _ _⟩

set_option maxHeartbeats 2000000 in
set_option maxRecDepth 1100000 in
theorem irune_err (w : World) :
    Calls Tryz.prog 161 #[S [0, 47], .int .i32 65533] w fun e w' => e = .returned (.int .i64 (-1)) ∧ Below w.heap.size w w' := by
  have n0 := fun ty => run_next_ascii (P := Tryz.prog) w (⟨#[0, 47]⟩ : ByteArray) 0 ty (by decide) (by decide)
  have n1 := fun ty => run_next_ascii (P := Tryz.prog) w (⟨#[0, 47]⟩ : ByteArray) 1 ty (by decide) (by decide)
  have n2 := fun ty => run_next_end (P := Tryz.prog) w (⟨#[0, 47]⟩ : ByteArray) 2 ty (by decide)
  go_enter Tryz.func161, Tryz.ntmps161
  go_wp2
  refine wp_loop_rounds 3 ?_
  rw [rounds_succ]
  go_wp2
  rw [rounds_succ]
  go_wp2
  rw [rounds_succ]
  go_wp2
  go_ret
  exact ⟨rfl, (Below.refl _ _).alloc (Nat.le_refl _) _⟩

theorem get_lt {s : ByteArray} {i : Nat} (h : i < s.size) : s.get! i = s[i] := by
  simp [ByteArray.get!, getElem!_pos, h]; rfl

theorem decode_big {s : ByteArray} {i : Nat} (h : i < s.size) (hb : 128 ≤ s[i].toNat) :
    128 ≤ (Utf8.decode s i).1 ∧ 1 ≤ (Utf8.decode s i).2 ∧ i + (Utf8.decode s i).2 ≤ s.size ∧ ∀ j (hj : j < s.size), i ≤ j → j < i + (Utf8.decode s i).2 → 128 ≤ s[j].toNat := by
  have cont : ∀ k, i + k < s.size ∧ (s.get! (i + k)).toNat / 64 = 2 → ∃ hk : i + k < s.size, 128 ≤ s[i + k].toNat := fun k ⟨h1, h2⟩ => ⟨h1, by rw [get_lt h1] at h2; omega⟩
  have h0 : s.get! (i + 0) = s[i] := get_lt h
  unfold Utf8.decode
  simp only [h0]
  rw [if_neg (by omega)]
  split
  · rename_i hc
    simp only [Bool.and_eq_true, decide_eq_true_eq, beq_iff_eq] at hc
    obtain ⟨hk, hk'⟩ := cont 1 hc.2
    split
    · refine ⟨by assumption, by omega, by omega, fun j hj h1 h2 => ?_⟩
      rcases (by omega : j = i ∨ j = i + 1) with rfl | rfl <;> assumption
    · exact ⟨by decide, by decide, by omega, fun j hj h1 h2 => by obtain rfl : j = i := by simp at h2; omega
                                                                  exact hb⟩
  · split
    · rename_i hc
      simp only [Bool.and_eq_true, decide_eq_true_eq, beq_iff_eq] at hc
      obtain ⟨hk, hk'⟩ := cont 1 hc.1.2
      obtain ⟨gk, gk'⟩ := cont 2 hc.2
      split
      · rename_i hv
        simp only [Bool.and_eq_true, decide_eq_true_eq] at hv
        refine ⟨by omega, by omega, by omega, fun j hj h1 h2 => ?_⟩
        rcases (by omega : j = i ∨ j = i + 1 ∨ j = i + 2) with rfl | rfl | rfl <;> assumption
      · exact ⟨by decide, by decide, by omega, fun j hj h1 h2 => by obtain rfl : j = i := by simp at h2; omega
                                                                    exact hb⟩
    · split
      · rename_i hc
        simp only [Bool.and_eq_true, decide_eq_true_eq, beq_iff_eq] at hc
        obtain ⟨hk, hk'⟩ := cont 1 hc.1.1.2
        obtain ⟨gk, gk'⟩ := cont 2 hc.1.2
        obtain ⟨jk, jk'⟩ := cont 3 hc.2
        split
        · rename_i hv
          simp only [Bool.and_eq_true, decide_eq_true_eq] at hv
          refine ⟨by omega, by omega, by omega, fun j hj h1 h2 => ?_⟩
          rcases (by omega : j = i ∨ j = i + 1 ∨ j = i + 2 ∨ j = i + 3) with rfl | rfl | rfl | rfl <;> assumption
        · exact ⟨by decide, by decide, by omega, fun j hj h1 h2 => by obtain rfl : j = i := by simp at h2; omega
                                                                      exact hb⟩
      · exact ⟨by decide, by decide, by omega, fun j hj h1 h2 => by obtain rfl : j = i := by simp at h2; omega
                                                                    exact hb⟩

theorem irune_any (r : Int) (w : World) (h0 : 128 ≤ r) :
    Calls Tryz.prog 161 #[S [0, 47], .int .i32 r] w fun e w' => e = .returned (.int .i64 (-1)) ∧ Below w.heap.size w w' := by
  by_cases h : r = 65533
  · subst h; exact irune_err w
  · exact irune_big r w h0 h

/-- None of the first i bytes is a sign that no name bears. -/
def OkTo (l : List UInt8) (i : Nat) : Prop := ∀ j (h : j < l.length), j < i → okByte l[j] = true

theorem OkTo.step {l : List UInt8} {i : Nat} (h : OkTo l i) (hi : i < l.length) (ho : okByte l[i] = true) : OkTo l (i + 1) := fun j hj hji => by
  by_cases e : j = i
  · subst e; exact ho
  · exact h j hj (by omega)
theorem contains_ok (x : UInt8) : [0, 47].contains x = !okByte x := by
  simp only [okByte, List.contains_cons, List.contains_nil, Bool.or_false]
  cases (x == 0) <;> cases (x == 47) <;> rfl

set_option maxHeartbeats 4000000 in
set_option maxRecDepth 1100000 in
theorem iany_short (l : List UInt8) (w : World) (h8 : l.length ≤ 8) :
    Calls Tryz.prog 160 #[S l, S [0, 47]] w fun e w' => (∃ n, e = .returned (.int .i64 n) ∧ (0 ≤ n ↔ l.all okByte = false)) ∧ Below w.heap.size w w' := by
  have h8z : ¬ ((8 : Int) < (l.length : Int)) := by omega
  go_enter Tryz.func160, Tryz.ntmps160
  go_wp2_with (go_at_call 162; refine (Tryz.strings_shouldUseASCIISet _ _).mono ?_; rintro e w' ⟨rfl, hw⟩; rw [hw])
  go_loopw [9, 10] (fun _ _ wr => ∃ i : Nat, i ≤ l.length ∧ OkTo l i ∧ wr.heap[w.heap.size]? = some (.stringIter ⟨l.toArray⟩ i) ∧ Below w.heap.size w wr) (fun _ _ wr => l.length - wr.iterPos w.heap.size)
  case atStart => exact ⟨0, Nat.zero_le _, fun j _ h => absurd h (Nat.not_lt_zero _), World.iter_heap _ _ _, (Below.refl _ _).alloc (Nat.le_refl _) _⟩
  case round =>
    obtain ⟨i, hi, hok, hit, hB⟩ := hrel
    have HO := Lib.hid hok
    have HI := Lib.hid hit
    have hip : wr.iterPos w.heap.size = i := by simp [World.iterPos, hit]
    have HP := Lib.hid hip
    have hks : w.heap.size < wr.heap.size := (Array.getElem?_eq_some_iff.1 hit).1
    clear hok hip
    by_cases hlt : i < l.length
    · by_cases hb : l[i].toNat < 128
      · have hnx := fun ty => run_next_ascii_at (P := Tryz.prog) wr w.heap.size ⟨l.toArray⟩ i ty hit hlt hb
        rw [show (({ data := l.toArray } : ByteArray)[i]'hlt) = l[i] from rfl] at hnx
        have hcon := contains_iff_indexByte [0, 47] l[i]
        have hI1 := iterAt_heap wr w.heap.size ⟨l.toArray⟩ i (i + 1) hit
        have hB1 := below_iterAt hB (Nat.le_refl _) ⟨l.toArray⟩ (i + 1)
        have HOK := Lib.hid (fun h => OkTo.step HO.out hlt h)
        have HBAD := Lib.hid (fun (h : okByte l[i] = false) => all_bad hlt h)
        have hoc := contains_ok l[i]
        rw [hoc] at hcon
        clear hoc hit
        generalize l[i] = x at *
        generalize wr.iterAt w.heap.size ⟨l.toArray⟩ (i + 1) = w2 at *
        have hback : ((x.toNat : Int)).toNat.toUInt8 = x := by simp
        have HI1 := Lib.hid hI1
        have HB1 := Lib.hid hB1
        clear hI1 hB1
        cases ho : okByte x
        · have hge : (0 : Int) ≤ indexByte [0, 47] x := by rw [ho] at hcon; exact of_decide_eq_true hcon.symm
          have HF := Lib.hid (HBAD.out ho)
          clear ho hcon
          go_wp2_with (go_at_call 161; refine (Tryz.strings_IndexRune_ascii _ _ _ (by omega) (by omega)).mono ?_; rintro e w' ⟨rfl, hw⟩; rw [hw, hback])
          go_ret
          exact ⟨⟨_, rfl, by rw [HF.out]; simp⟩, HB1.out⟩
        · have hge : ¬ (0 : Int) ≤ indexByte [0, 47] x := by rw [ho] at hcon; exact of_decide_eq_false hcon.symm
          have HT := Lib.hid (HOK.out ho)
          clear ho hcon
          go_wp2_with (go_at_call 161; refine (Tryz.strings_IndexRune_ascii _ _ _ (by omega) (by omega)).mono ?_; rintro e w' ⟨rfl, hw⟩; rw [hw, hback])
          go_roundw
          case rel => exact ⟨i + 1, by omega, HT.out, HI1.out, HB1.out⟩
          case measure => have h1 := HI1.out; simp [World.iterPos, h1]; have h2 := HI.out; simp [h2]; omega
      · have hb' : 128 ≤ (({ data := l.toArray } : ByteArray)[i]'hlt).toNat := by show 128 ≤ l[i].toNat; omega
        obtain ⟨d1, d2, d3, d4⟩ := decode_big (s := ⟨l.toArray⟩) (i := i) hlt hb'
        have hnx := fun ty => run_next_any_at (P := Tryz.prog) wr w.heap.size ⟨l.toArray⟩ i ty hit hlt
        generalize (Utf8.decode ⟨l.toArray⟩ i).1 = r at *
        generalize (Utf8.decode ⟨l.toArray⟩ i).2 = k at *
        have d3' : i + k ≤ l.length := d3
        have hr : (128 : Int) ≤ (r : Int) := by omega
        have HT := Lib.hid (fun j hj hji => by
          by_cases e : j < i
          · exact HO.out j hj e
          · have h1 := d4 j hj (by omega) hji
            have h2 : 128 ≤ l[j].toNat := h1
            cases ho : okByte l[j]
            · rcases okByte_false ho with h | h <;> (rw [h] at h2; simp at h2)
            · rfl : OkTo l (i + k))
        have hI1 := iterAt_heap wr w.heap.size ⟨l.toArray⟩ i (i + k) hit
        have hB1 := below_iterAt hB (Nat.le_refl _) ⟨l.toArray⟩ (i + k)
        have hks1 : w.heap.size < (wr.iterAt w.heap.size ⟨l.toArray⟩ (i + k)).heap.size := by rw [iterAt_size]; exact hks
        clear d4 d3 hb' hit
        generalize wr.iterAt w.heap.size ⟨l.toArray⟩ (i + k) = w2 at *
        have HI1 := Lib.hid hI1
        have HB1 := Lib.hid hB1
        clear hI1 hB1
        go_wp2_with (go_at_call 161; refine (irune_any _ _ hr).mono ?_; rintro e w3 ⟨rfl, hw3⟩)
        have h3 : w3.heap[w.heap.size]? = some (.stringIter ⟨l.toArray⟩ (i + k)) := by rw [hw3.block _ hks1]; exact HI1.out
        have H3 := Lib.hid h3
        go_roundw
        case rel => exact ⟨i + k, by omega, HT.out, H3.out, HB1.out.trans (hw3.mono (by omega))⟩
        case measure => have h1 := H3.out; simp [World.iterPos, h1]; have h2 := HI.out; simp [h2]; omega
    · obtain rfl : i = l.length := by omega
      have hnx := fun ty => run_next_end_at (P := Tryz.prog) wr w.heap.size ⟨l.toArray⟩ l.length ty hit (by show ¬ l.length < l.length; omega)
      go_wp2
      go_ret
      have ha : l.all okByte = true := by rw [List.all_eq_true]; intro x hx; obtain ⟨j, hj, rfl⟩ := List.mem_iff_getElem.1 hx; exact HO.out j hj hj
      exact ⟨⟨_, rfl, by rw [ha]; simp⟩, hB⟩

theorem indexAny_ok : ∀ l : List UInt8, 0 ≤ indexAny l [0, 47] ↔ l.all okByte = false
  | [] => by simp [indexAny]
  | b :: l => by
    have ih := indexAny_ok l
    have hg := indexAny_ge [0, 47] l
    rw [indexAny, contains_ok, List.all_cons]
    cases hb : okByte b
    · simp
    · simp only [Bool.not_true, Bool.false_eq_true, if_false, Bool.true_and]
      rw [← ih]
      by_cases he : indexAny l [0, 47] = -1
      · rw [he]; decide
      · rw [if_neg (by simpa using he)]; omega

theorem asciiInfo : (Tryz.prog.info? 236).map (fun i => (i.zero, i.size)) = some (some (.agg (Array.replicate 256 (.bool false))), 256) := by kernel_rfl

theorem iany_walk (l : List UInt8) (w : World) (hl : l.length ≤ 1100000) :
    Calls Tryz.prog 160 #[S l, S [0, 47]] w fun e w' => (∃ n, e = .returned (.int .i64 n) ∧ (0 ≤ n ↔ l.all okByte = false)) ∧ Below w.heap.size w w' := by
  by_cases h8 : l.length ≤ 8
  · exact iany_short l w h8
  · refine (Tryz.strings_IndexAny_long (zero_of_info asciiInfo).1 ⟨l.toArray⟩ ⟨#[0, 47]⟩ w (by decide) (by show 8 < l.length; omega) (by show l.length < _; omega) (by decide) ?_).mono ?_
    · intro j b hj
      match j, hj with
      | 0, hj => simp at hj; subst hj; decide
      | 1, hj => simp at hj; subst hj; decide
    · rintro e w' ⟨rfl, rfl⟩
      exact ⟨⟨_, rfl, indexAny_ok l⟩, ((Below.refl _ _).alloc (Nat.le_refl _) _).alloc (by simp) _⟩

set_option maxHeartbeats 1100000 in
theorem cany_walk (l : List UInt8) (w : World) (hl : l.length ≤ 1100000) :
    Calls Tryz.prog 158 #[S l, S [0, 47]] w fun e w' => e = .returned (.bool (!l.all okByte)) ∧ Below w.heap.size w w' := by
  have C := iany_walk l w hl
  generalize l.all okByte = ab at C ⊢
  go_enter Tryz.func158, Tryz.ntmps158
  go_wp2_with (go_at_call 160; refine C.mono ?_; rintro e w1 ⟨⟨n, rfl, hn⟩, hw⟩)
  go_ret
  refine ⟨ret_bool ?_, hw⟩
  cases ab <;> simp

set_option maxHeartbeats 1100000 in
theorem name_walk (l : List UInt8) (w : World) (hl : l.length ≤ 1100000) :
    Calls Tryz.prog 151 #[S l] w fun e w' => e = .returned (.bool (nameB l)) ∧ Below w.heap.size w w' := by
  have C := cany_walk l w hl
  by_cases hb : (l.isEmpty || decide (31 < l.length) || l == [46] || l == [46, 46]) = true
  · have HB := Lib.hid (show nameB l = false by unfold nameB; rw [hb]; rfl)
    rw [HB.out]
    clear C
    by_cases h1 : l = []
    · subst h1
      go_enter Tryz.func151, Tryz.ntmps151
      go_wp2
      go_ret
      exact ⟨rfl, Below.refl _ _⟩
    · have h1' : l.isEmpty = false := by simpa using h1
      clear h1
      by_cases h2 : (31 : Int) < (l.length : Int)
      · go_enter Tryz.func151, Tryz.ntmps151
        go_wp2
        go_ret
        exact ⟨rfl, Below.refl _ _⟩
      · simp only [h1', Bool.false_or, Bool.or_eq_true, decide_eq_true_eq, beq_iff_eq] at hb
        rcases hb with (hb | hb) | hb
        · omega
        · subst hb
          go_enter Tryz.func151, Tryz.ntmps151
          go_wp2
          go_ret
          exact ⟨rfl, Below.refl _ _⟩
        · subst hb
          go_enter Tryz.func151, Tryz.ntmps151
          go_wp2
          go_ret
          exact ⟨rfl, Below.refl _ _⟩
  · have hb' : (l.isEmpty || decide (31 < l.length) || l == [46] || l == [46, 46]) = false := by simpa using hb
    simp only [Bool.or_eq_false_iff] at hb'
    obtain ⟨⟨⟨h1, h2⟩, h3⟩, h4⟩ := hb'
    have HN := Lib.hid (show nameB l = l.all okByte by unfold nameB; rw [h1, h2, h3, h4]; rfl)
    have h2' : (l.length : Int) ≤ 31 := by simp at h2; omega
    clear hb h2
    generalize nameB l = nb at *
    generalize l.all okByte = ab at *
    go_enter Tryz.func151, Tryz.ntmps151
    go_wp2_with (go_at_call 158; refine C.mono ?_; rintro e w1 ⟨rfl, hw⟩)
    go_ret
    exact ⟨ret_bool (by rw [HN.out]), hw⟩
end Go.Proofs.YtaompdnnkfmjhaaGreatDoor

namespace Go.Proofs.YtaompdnnkfmjhaaGreatDoor
open Go.RowKit
attribute [local go_sem] Oper.semAt_some

/-- What groups hands out. -/
def grpL : Nat → List UInt8 → List (Nat × Bool)
  | 0, _ => []
  | _, [] => []
  | f + 1, c :: cs => if c.toNat < 128 then [(c.toNat % 128, true)] else (c.toNat % 128, false) :: grpL f cs
def encG (x : Nat × Bool) : Array Value := #[.int .u64 x.1, .bool x.2]

theorem grpL_at {l : List UInt8} {i : Nat} (h : i < l.length) (h10 : i < 10) : grpL (10 - i) (l.drop i) = if l[i].toNat < 128 then [(l[i].toNat % 128, true)] else (l[i].toNat % 128, false) :: grpL (10 - (i + 1)) (l.drop (i + 1)) := by
  rw [List.drop_eq_getElem_cons h, show 10 - i = (10 - (i + 1)) + 1 by omega, grpL]
theorem grpL_end {l : List UInt8} {i : Nat} (h : ¬ (i < l.length ∧ i < 10)) : grpL (10 - i) (l.drop i) = [] := by
  by_cases h1 : i < 10
  · rw [List.drop_eq_nil_of_le (by omega), show 10 - i = (10 - (i + 1)) + 1 by omega]; rfl
  · rw [show 10 - i = 0 by omega]; rfl

set_option maxHeartbeats 1100000 in
theorem groups_walk (l : List UInt8) (w : World) :
    Calls Tryz.prog 157 #[S l] w fun e w' => e = .returned (.func (.func 159) #[] #[.pointer (some ⟨w.heap.size, 0, none⟩)]) ∧ w' = w.alloc (.cells #[S l] 9) := by
  go_enter Tryz.func157, Tryz.ntmps157
  go_wp2
  go_ret
  exact ⟨rfl, rfl⟩

/-- What a round must keep of the iterator's: its box. -/
def KpG (B : Nat) (W W' : World) : Prop := W.heap.size ≤ W'.heap.size ∧ W'.heap[B]? = W.heap[B]?
theorem KpG.refl (B : Nat) (W : World) : KpG B W W := ⟨Nat.le_refl _, rfl⟩
theorem KpG.trans {B : Nat} {X Y Z : World} (h : KpG B X Y) (k : KpG B Y Z) : KpG B X Z := ⟨Nat.le_trans h.1 k.1, k.2.trans h.2⟩
theorem KpG.put {B : Nat} (W : World) (l : Nat) (o : Obj) (h' : B < l) : KpG B W (W.putObj l o) := ⟨by simp, World.putObj_heap_other (by omega)⟩
theorem KpG.allocs {B : Nat} (W : World) (o o' : Obj) (h' : B < W.heap.size) : KpG B W ((W.alloc o).alloc o') :=
  ⟨by simp; omega, (Below.heap_alloc _ _ _ (by simp; omega)).trans (Below.heap_alloc _ _ _ (by omega))⟩

theorem and127' : ∀ x : Fin 256, bits BinOp.and IntKind.u8 ((x.val : Nat) : Int) 127 = ((x.val % 128 : Nat) : Int) := by decide +kernel
theorem and127 (c : UInt8) : bits BinOp.and IntKind.u8 (c.toNat : Int) 127 = ((c.toNat % 128 : Nat) : Int) := and127' ⟨c.toNat, UInt8.toNat_lt c⟩

set_option maxHeartbeats 2000000 in
set_option maxRecDepth 100000 in
theorem groups_iter (B : Nat) (l : List UInt8) (w : World) (hB : Boxed w B 9 (S l)) (hl : l.length ≤ 1100000) :
    IterOf Tryz.prog 159 #[.pointer (some ⟨B, 0, none⟩)] (fun _ => False) (KpG B) encG (grpL 10 l) w := by
  intro ly J Jx W hKp hsz hJ hJx hY h0
  have hBW : Boxed W B 9 (S l) := hKp.2.trans hB
  refine (callsIn_wide (n := 3)).1 ?_
  refine callsIn_of_wp Tryz.func159 rfl trivial ?_ rfl
  simp only [Tryz.ntmps159, List.size_toArray, List.length_cons, List.length_nil, Nat.reduceAdd, Nat.reduceSub, Array.replicate_succ, Array.replicate_zero, List.push_toArray, List.append_toArray, List.nil_append, List.cons_append]
  have hbc := hBW.cell
  have hmin : Int.toNat (min (l.length : Int) 10) = min l.length 10 := by omega
  gi_wp2
  gi_loopw [8] (fun i wr => ∃ (k : Nat) (pre : List (Nat × Bool)), i = .int .i64 k ∧ Boxed wr B 9 (S l) ∧ J pre wr ∧ k ≤ 10 ∧ grpL 10 l = pre ++ grpL (10 - k) (l.drop k)) (fun i _ => 10 - (intOf i).toNat)
  case atStart => exact ⟨0, [], rfl, hBW, h0, by omega, rfl⟩
  case round =>
    obtain ⟨k, pre, rfl, hbox, hJp, hk10, hg⟩ := hrel
    have hbc := hbox.cell
    by_cases h1 : k < l.length ∧ k < 10
    · obtain ⟨h2, h3⟩ := h1
      have h4 : (k : Int) < min (l.length : Int) 10 := by omega
      have h5 : (k : Int) < (l.length : Int) := by omega
      have HG := Lib.hid (hg.trans (congrArg (pre ++ ·) (grpL_at h2 h3)))
      have ha0 := and127 l[k]
      have hc80 := UInt8.toNat_lt l[k]
      obtain ⟨c, hcd⟩ : ∃ c, c = l[k].toNat := ⟨_, rfl⟩
      have hc : (({ data := l.toArray } : ByteArray)[k]'h2).toNat = c := hcd.symm
      rw [← hcd] at HG ha0 hc80
      have ha : bits BinOp.and IntKind.u8 (c : Int) 127 = (c : Int) % 128 := by rw [ha0]; omega
      have hw : IntKind.u64.wrap ((c : Int) % 128) = (c : Int) % 128 := by rw [IntKind.wrap_u64]; omega
      clear hcd hg ha0
      by_cases hlt : c < 128
      · have hlt' : (c : Int) < 128 := by omega
        have HX := Lib.hid (HG.out.trans (congrArg (pre ++ ·) (if_pos hlt)))
        obtain ⟨fn, tmps, assign, body, hy, hR⟩ := hY pre (c % 128, true) wr hJp ⟨[], by rw [List.append_nil]; exact HX.out.symm⟩
        rw [show encG (c % 128, true) = #[.int .u64 ((c : Int) % 128), .bool true] by simp [encG]] at hy
        gi_wp2
        refine hR.mono ?_
        rintro e w4 (⟨rfl, hJ4, hk4⟩ | ⟨rfl, hJx4⟩)
        · gi_wp2
          refine bodyPost_ret (results_none rfl _ _ _) rfl ?_
          exact ⟨⟨_, rfl⟩, .inl (by rw [HX.out]; exact hJ4)⟩
        · gi_wp2
          refine bodyPost_ret (results_none rfl _ _ _) rfl ?_
          exact ⟨⟨_, rfl⟩, .inr ⟨_, ⟨[], by rw [List.append_nil]; exact HX.out.symm⟩, hJx4⟩⟩
      · have hlt' : ¬ (c : Int) < 128 := by omega
        have HX := Lib.hid (show grpL 10 l = (pre ++ [(c % 128, false)]) ++ grpL (10 - (k + 1)) (l.drop (k + 1)) by rw [HG.out, if_neg hlt]; simp)
        obtain ⟨fn, tmps, assign, body, hy, hR⟩ := hY pre (c % 128, false) wr hJp ⟨_, HX.out.symm⟩
        rw [show encG (c % 128, false) = #[.int .u64 ((c : Int) % 128), .bool false] by simp [encG]] at hy
        gi_wp2
        refine hR.mono ?_
        rintro e w4 (⟨rfl, hJ4, hk4⟩ | ⟨rfl, hJx4⟩)
        · have hb4 : Boxed w4 B 9 (S l) := hk4.2.trans hbox
          gi_wp2
          go_roundw
          case rel => exact ⟨k + 1, _, by go_num, hb4, hJ4, by omega, HX.out⟩
          case measure => simp [intOf]; omega
        · gi_wp2
          refine bodyPost_ret (results_none rfl _ _ _) rfl ?_
          exact ⟨⟨_, rfl⟩, .inr ⟨_, ⟨_, HX.out.symm⟩, hJx4⟩⟩
    · have h4 : ¬ (k : Int) < min (l.length : Int) 10 := by omega
      have HX := Lib.hid (show grpL 10 l = pre by rw [hg, grpL_end h1, List.append_nil])
      clear hg
      gi_wp2
      go_end0
      exact ⟨⟨_, rfl⟩, .inl (by rw [HX.out]; exact hJp)⟩
end Go.Proofs.YtaompdnnkfmjhaaGreatDoor
