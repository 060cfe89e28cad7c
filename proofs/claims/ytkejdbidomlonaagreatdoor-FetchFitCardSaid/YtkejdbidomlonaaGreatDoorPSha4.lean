/- The program's feeder of a sum. -/
import Derived.Test.YtkejdbidomlonaaGreatDoorPSha3
import Derived.Test.YtkejdbidomlonaaGreatDoorJObjAt
namespace Go.Proofs.YtkejdbidomlonaaGreatDoor
open Go.RowKit

/-- a feeder's cells. -/
def feedC (v : H8) (n : Nat) (part : List UInt8) : List Value := v.words.map wV ++ (.int .u64 n :: part.map bV)
theorem feedC_len (v : H8) (n : Nat) (part : List UInt8) : (feedC v n part).length = 9 + part.length := by simp [feedC, H8.words]; omega

set_option maxHeartbeats 4000000 in
set_option maxRecDepth 100000 in
theorem take_walk (v : H8) (hv : v.ok) (n : Nat) (part : List UInt8) (hp : part.length = 64) (g : Nat) (w : World) (hg : w.heap[g]? = some (.cells (feedC v n part).toArray 147 (0, 0))) :
    Calls Tryz.prog 124 #[.pointer (some ⟨g, 0, none⟩), .agg (part.map bV).toArray] w fun e w' => e = .returned (.tuple #[]) ∧ w'.heap[g]? = some (.cells (feedC (blockH v part) n part).toArray 147 (0, 0)) ∧ Gro g w w' := by
  have hlt := heap_lt hg
  obtain ⟨w1, hw1, hb1, hz⟩ : ∃ w1, w1 = w.alloc (.cells (part.map bV).toArray 95) ∧ Below w.heap.size w w1 ∧ w1.heap[w.heap.size]? = some (.cells (part.map bV).toArray 95 (0, 0)) :=
    ⟨_, rfl, (Below.refl _ _).alloc (Nat.le_refl _) _, heap_alloc_new _ _⟩
  have hg1 := (hb1.block g hlt).trans hg
  have CB := fun W => block_walk v hv part hp W
  have c0 := fun i u (h : (v.words.map wV)[i]? = some u) => LaterOf.cell (arr_cell hg1 (i := i) (v := u) (by
    have hi : i < (v.words.map wV).length := (List.getElem?_eq_some_iff.1 h).1
    rw [List.getElem?_toArray, feedC, List.getElem?_append_left hi]; exact h))
  have hl1 : ∀ p : LaterOf w1, (loadVar 93 ⟨g, 0, none⟩).run Tryz.prog p.world = .ok (.agg (v.words.map wV).toArray) p.world := fun p =>
    run_load_part p.world g 0 _ _ _ (fun j u h => by rw [Nat.zero_add]; exact c0 j u h p) Tryz.underlying93 rfl (by kernel_rfl)
  have hl2 : ∀ p : LaterOf w1, (loadVar 95 ⟨w.heap.size, 0, none⟩).run Tryz.prog p.world = .ok (.agg (part.map bV).toArray) p.world := fun p =>
    run_load_part p.world _ 0 _ _ _ (fun j u h => by rw [Nat.zero_add]; exact LaterOf.cell (arr_cell hz (by simpa using h)) p) Tryz.underlying95 rfl (by simp only [List.length_map, hp]; kernel_rfl)
  have HZ := Lib.hid hz
  have HG1 := Lib.hid hg1
  clear c0 hz hg1 hg
  go_enter Tryz.func124, Tryz.ntmps124
  go_upto_region 1 with fail
  rw [← hw1]
  clear hw1
  (refine wp_tail_quick 9 1 rfl (by kernel_rfl) (by kernel_rfl) (by kernel_rfl) (by kernel_rfl) ?_; simp only [List.take_succ_cons, List.take_zero]; (repeat (first | go_big_quiet_step ((go_at_call 147; exact LaterOf.call _ (CB _))) | (first | (refine wpQuiet_load rfl 93 _ rfl ⟨g, 0, none⟩ rfl _ (fun _ hp => by obtain ⟨p, hp2⟩ := hp; subst hp2; exact hl1 p) ?_) | (refine wpQuiet_load rfl 95 _ rfl ⟨w.heap.size, 0, none⟩ rfl _ (fun _ hp => by obtain ⟨p, hp2⟩ := hp; subst hp2; exact hl2 p) ?_); go_simp))); refine wpQuiet_nil ?_; first | (intro _ hw1; obtain ⟨lw, hw2⟩ := hw1; subst hw2) | intro lw)
  have hg2 := (lw.below.block g (heap_lt HG1.out)).trans HG1.out
  have hst := run_store_head (P := Tryz.prog) lw.world g 147 (feedC v n part) ((blockH v part).words.map wV) hg2 (by rw [feedC_len]; simp only [List.length_map, H8.words, List.length_cons, List.length_nil]; omega) (fun x hx => by
    obtain ⟨y, -, rfl⟩ := List.mem_map.1 hx
    rfl)
  have hcs : (blockH v part).words.map wV ++ (feedC v n part).drop ((blockH v part).words.map wV).length = feedC (blockH v part) n part := rfl
  rw [hcs] at hst
  have h8 : (blockH v part).words.length = 8 := rfl
  have HG3 := Lib.hid (setRow_heap lw.world g _ (feedC (blockH v part) n part).toArray _ _ hg2)
  have HGR : Hid (Gro g w (lw.world.setRow g (feedC (blockH v part) n part).toArray)) := Lib.hid (by
    have h1 := below_chain hb1 lw.below hb1.size
    exact World.grownBy.trans (gro_of h1) ⟨rfl, rfl, rfl, by simp, fun k hk hne => setRow_other _ _ _ _ (fun e => hne (by rw [e]))⟩)
  clear hcs hg2 hl1 hl2 CB
  (refine wpAny_ready (rs := [9]) (by kernel_rfl) (by simp) ?_; refine AllReady.cons rfl (fun K hK => ?_) AllReady.nil; go_simp; refine hK _ _ ?_; clear hK K)
  refine wpAny_done (by kernel_rfl) ?_ _
  go_end0
  exact ⟨rfl, HG3.out, HGR.out⟩

/-- the feeder at block g had the bytes xs. -/
def IsFeed (w : World) (g : Nat) (xs : List UInt8) : Prop :=
  ∃ part : List UInt8, part.length = 64 ∧ part.take (xs.length % 64) = xs.drop (64 * (xs.length / 64)) ∧ w.heap[g]? = some (.cells (feedC (feedH xs) xs.length part).toArray 147 (0, 0))

theorem feedC_part (v : H8) (n : Nat) (part : List UInt8) {j : Nat} (h : j < part.length) : (feedC v n part)[9 + j]? = some (bV part[j]) := by
  rw [feedC, List.getElem?_append_right (by simp [H8.words]; omega), show 9 + j - (v.words.map wV).length = j + 1 by simp [H8.words]; omega, List.getElem?_cons_succ, List.getElem?_map, List.getElem?_eq_getElem h]
  rfl
theorem feedC_set (v : H8) (n : Nat) (part : List UInt8) (j : Nat) (c : UInt8) : (feedC v n part).set (9 + j) (bV c) = feedC v n (part.set j c) := by
  rw [feedC, List.set_append_right _ _ (by simp [H8.words]; omega), show 9 + j - (v.words.map wV).length = j + 1 by simp [H8.words]; omega, List.set_cons_succ, ← List.map_set]
  rfl
theorem feedC_size (v : H8) (n m : Nat) (part : List UInt8) : (feedC v n part).set 8 (.int .u64 m) = feedC v m part := rfl

theorem tail_snoc {xs part : List UInt8} {c : UInt8} (hp : part.length = 64) (ht : part.take (xs.length % 64) = xs.drop (64 * (xs.length / 64))) (hn : ¬ xs.length % 64 = 63) :
    (part.set (xs.length % 64) c).take ((xs ++ [c]).length % 64) = (xs ++ [c]).drop (64 * ((xs ++ [c]).length / 64)) := by
  rw [List.length_append, List.length_singleton, show (xs.length + 1) % 64 = xs.length % 64 + 1 by omega, show (xs.length + 1) / 64 = xs.length / 64 by omega, List.drop_append_of_le_length (by omega), ← ht, List.take_succ_eq_append_getElem (by rw [List.length_set]; omega), List.getElem_set_self, List.take_set_of_le (Nat.le_refl _)]
theorem full_snoc {xs part : List UInt8} {c : UInt8} (hp : part.length = 64) (ht : part.take (xs.length % 64) = xs.drop (64 * (xs.length / 64))) (hn : xs.length % 64 = 63) :
    part.set (xs.length % 64) c = xs.drop (64 * (xs.length / 64)) ++ [c] := by
  rw [← ht, hn]
  have h2 : (part.set 63 c).length = 64 := by rw [List.length_set, hp]
  rw [← List.take_of_length_le (Nat.le_of_eq h2), show 64 = 63 + 1 from rfl, List.take_succ_eq_append_getElem (by omega), List.getElem_set_self, List.take_set_of_le (Nat.le_refl _)]
theorem feed_tail {w : World} {g : Nat} {ys part : List UInt8} {c : UInt8} (hp : part.length = 64) (ht : part.take (ys.length % 64) = ys.drop (64 * (ys.length / 64))) (hn : ¬ ys.length % 64 = 63)
    (h : w.heap[g]? = some (.cells (feedC (feedH ys) (ys.length + 1) (part.set (ys.length % 64) c)).toArray 147 (0, 0))) : IsFeed w g (ys ++ [c]) := by
  refine ⟨part.set (ys.length % 64) c, by rw [List.length_set, hp], tail_snoc hp ht hn, ?_⟩
  rw [feedH_snoc, if_neg hn, List.length_append, List.length_singleton]
  exact h
theorem feed_full {w : World} {g : Nat} {ys part : List UInt8} {c : UInt8} (hp : part.length = 64) (ht : part.take (ys.length % 64) = ys.drop (64 * (ys.length / 64))) (hn : ys.length % 64 = 63)
    (h : w.heap[g]? = some (.cells (feedC (blockH (feedH ys) (part.set (ys.length % 64) c)) (ys.length + 1) (part.set (ys.length % 64) c)).toArray 147 (0, 0))) : IsFeed w g (ys ++ [c]) := by
  refine ⟨part.set (ys.length % 64) c, by rw [List.length_set, hp], ?_, ?_⟩
  · rw [List.length_append, List.length_singleton, show (ys.length + 1) % 64 = 0 by omega, List.take_zero, List.drop_eq_nil_of_le (by rw [List.length_append, List.length_singleton]; omega)]
  · rw [feedH_snoc, if_pos hn, List.length_append, List.length_singleton, ← full_snoc hp ht hn]
    exact h

set_option maxHeartbeats 4000000 in
set_option maxRecDepth 100000 in
theorem feed_walk (g : Nat) (xs s : List UInt8) (w : World) (h : IsFeed w g xs) (hs : xs.length + s.length ≤ 100000000) :
    Calls Tryz.prog 88 #[.pointer (some ⟨g, 0, none⟩), S s] w fun e w' => e = .returned (.tuple #[]) ∧ IsFeed w' g (xs ++ s) ∧ Gro g w w' := by
  have H := Lib.hid h
  clear h
  go_enter Tryz.func88, Tryz.ntmps88
  go_wp2
  go_loopw [8, 4, 5] (fun i _ _ wr => ∃ k : Nat, k ≤ s.length ∧ i = .int .i64 k ∧ IsFeed wr g (xs ++ s.take k) ∧ Gro g w wr) (fun i _ _ _ => s.length - (intOf i).toNat)
  case atStart => exact ⟨0, Nat.zero_le _, rfl, by rw [List.take_zero, List.append_nil]; exact H.out, gro_of (Below.refl _ _)⟩
  case round =>
    obtain ⟨k, hk, rfl, hf, hG⟩ := hrel
    by_cases h1 : k < s.length
    · have h1' : (k : Int) < (s.length : Int) := by omega
      have HT := Lib.hid (show (xs ++ s.take k) ++ [s[k]] = xs ++ s.take (k + 1) by rw [List.take_succ_eq_append_getElem h1, List.append_assoc])
      have hyl : (xs ++ s.take k).length ≤ 100000000 := by rw [List.length_append, List.length_take]; omega
      generalize xs ++ s.take k = ys at *
      obtain ⟨part, hp, htl, hz⟩ := hf
      have HTL := Lib.hid htl
      have HP := Lib.hid hp
      have HFT := Lib.hid (fun (W : World) h => feed_tail (w := W) (g := g) (c := s[k]) hp htl h)
      have HFF := Lib.hid (fun (W : World) h => feed_full (w := W) (g := g) (c := s[k]) hp htl h)
      have hvo := feedH_ok ys
      generalize feedH ys = v at *
      obtain ⟨n, hn⟩ : ∃ n, ys.length = n := ⟨_, rfl⟩
      rw [hn] at hyl htl hz HTL HFT HFF
      obtain ⟨m, hm⟩ : ∃ m, n % 64 = m := ⟨_, rfl⟩
      have hm64 : m < 64 := by omega
      rw [hm] at htl HTL HFT HFF
      have hmi : (n : Int) % 64 = (m : Int) := by omega
      have hm64' : (m : Int) < 64 := by omega
      have e8 := arr_cell hz (i := 8) (v := .int .u64 n) rfl
      have hmp : m < part.length := by omega
      have e9 := arr_cell hz (i := 9 + m) (by rw [List.getElem?_toArray]; exact feedC_part v n part hmp)
      unfold bV at e9
      generalize part[m] = u at e9
      have q9 := LaterOf.cell e9
      have hbk : ({ data := s.toArray } : ByteArray)[k]'(by simpa [ByteArray.size] using h1) = s[k] := rfl
      generalize s[k] = c at *
      have HZ := Lib.hid hz
      have HG := Lib.hid hG
      clear hz hG hm hp htl hn hmp
      go_upto_region 4 with fail
      (refine wp_tail_quick 8 1 rfl (by kernel_rfl) (by kernel_rfl) (by kernel_rfl) (by kernel_rfl) ?_; simp only [List.take_succ_cons, List.take_zero]; (repeat (go_big_quiet_step (fail))); refine wpQuiet_nil ?_; intro _ hw1; obtain ⟨lw, hw2⟩ := hw1; subst hw2)
      have hz2 := (lw.below.block g (heap_lt HZ.out)).trans HZ.out
      have c9 := q9 lw
      have s9 := is_some c9
      have f9 := arr_frozen (i := 9 + m) hz2
      have HG2 := Lib.hid (gro_chain HG.out lw.below)
      clear e8 e9 q9
      (refine wpAny_ready (rs := [8]) (by kernel_rfl) (by simp) ?_; refine AllReady.cons rfl (fun K hK => ?_) AllReady.nil; go_simp; refine hK _ _ ?_; clear hK K)
      refine wpAny_done (by kernel_rfl) ?_ _
      obtain ⟨w3, hw3⟩ : ∃ w3, w3 = lw.world.setCell ⟨g, 9 + m, none⟩ (.int .u8 ((c.toNat : Nat) : Int)) := ⟨_, rfl⟩
      rw [← hw3]
      have hz3 : w3.heap[g]? = some (.cells (feedC v n (part.set m c)).toArray 147 (0, 0)) := by
        rw [hw3, heap_setCell_same lw.world g _ _ _ _ hz2, ← feedC_set]
        simp [bV]
      have HG3 : Hid (Gro g w w3) := Lib.hid (by rw [hw3]; exact gro_set HG2.out _ _)
      have d8 := arr_cell hz3 (i := 8) (v := .int .u64 n) rfl
      have r8 := is_some d8
      have t8 := arr_frozen (i := 8) hz3
      have HZ3 := Lib.hid hz3
      clear hw3 hz3 hz2 c9 s9 f9 HG2 HG HZ
      obtain ⟨w4, hw4⟩ : ∃ w4, w4 = w3.setCell ⟨g, 8, none⟩ (.int .u64 ((n : Int) + 1)) := ⟨_, rfl⟩
      have HZ4 : Hid (w4.heap[g]? = some (.cells (feedC v (n + 1) (part.set m c)).toArray 147 (0, 0))) := Lib.hid (by
        rw [hw4, heap_setCell_same w3 g _ _ _ _ HZ3.out, ← feedC_size v n (n + 1)]
        simp)
      have HG4 : Hid (Gro g w w4) := Lib.hid (by rw [hw4]; exact gro_set HG3.out _ _)
      by_cases h63 : m = 63
      · have h63' : ((m : Int) == 63) = true := by rw [beq_iff_eq]; omega
        have HF := Lib.hid (fun W => HFF.out W h63)
        have CT := take_walk v hvo (n + 1) (part.set m c) (by rw [List.length_set]; exact HP.out)
        have hpl : (part.set m c).length = 64 := by rw [List.length_set]; exact HP.out
        generalize part.set m c = part' at *
        have hl : ∀ p : LaterOf w4, (loadVar 95 ⟨g, 9, none⟩).run Tryz.prog p.world = .ok (.agg (part'.map bV).toArray) p.world := fun p =>
          run_load_part p.world g 9 _ _ _ (fun j u h => LaterOf.cell (arr_cell HZ4.out (i := 9 + j) (by
            have hj : j < (part'.map bV).length := (List.getElem?_eq_some_iff.1 h).1
            rw [List.length_map] at hj
            rw [List.getElem?_toArray, feedC_part _ _ _ hj, ← h, List.getElem?_map, List.getElem?_eq_getElem hj]; rfl)) p) Tryz.underlying95 rfl (by simp only [List.length_map, hpl]; kernel_rfl)
        clear h63 HFF HFT
        go_upto_region 7 with fail
        rw [← hw4]
        clear hw4
        (refine wp_tail_quick 7 1 rfl (by kernel_rfl) (by kernel_rfl) (by kernel_rfl) (by kernel_rfl) ?_; simp only [List.take_succ_cons, List.take_zero]; (repeat (first | go_big_quiet_step (fail) | ((refine wpQuiet_load rfl 95 _ rfl ⟨g, 9, none⟩ rfl _ (fun _ hp => by obtain ⟨p, hp2⟩ := hp; subst hp2; exact hl p) ?_); go_simp))); refine wpQuiet_nil ?_; first | (intro _ hw1; obtain ⟨lw, hw2⟩ := hw1; subst hw2) | intro lw)
        have CT5 := CT g lw.world ((lw.below.block g (heap_lt HZ4.out)).trans HZ4.out)
        have HG5 := Lib.hid (gro_chain HG4.out lw.below)
        clear CT hl d8 r8 t8
        refine wpAny_ready (rs := [7]) (by kernel_rfl) (by simp) ?_
        refine AllReady.cons rfl (fun K hK => ?_) AllReady.nil
        go_simp
        refine CT5.mono ?_
        rintro e w6 ⟨rfl, hz6, hg6⟩
        have HF6 := Lib.hid (HF.out w6 hz6)
        have HG6 := Lib.hid (World.grownBy.trans HG5.out hg6)
        clear hz6 hg6 CT5
        refine hK _ _ ?_
        clear hK K
        refine wpAny_done (by kernel_rfl) ?_ _
        go_wp2
        go_roundw
        case rel => exact ⟨k + 1, by omega, by go_num, by rw [← HT.out]; exact HF6.out, HG6.out⟩
        case measure => simp [intOf]; omega
      · have h63' : ((m : Int) == 63) = false := by rw [beq_eq_false_iff_ne]; omega
        have HF := Lib.hid (HFT.out w4 h63 HZ4.out)
        clear HFF HFT
        go_wp2
        rw [← hw4]
        go_roundw
        case rel => exact ⟨k + 1, by omega, by go_num, by rw [← HT.out]; exact HF.out, HG4.out⟩
        case measure => simp [intOf]; omega
    · have h1' : ¬ (k : Int) < (s.length : Int) := by omega
      obtain rfl : k = s.length := by omega
      rw [List.take_of_length_le (Nat.le_refl _)] at hf
      have HF := Lib.hid hf
      have HG := Lib.hid hG
      clear hf hG
      go_wp2
      go_end0
      exact ⟨rfl, HF.out, HG.out⟩
end Go.Proofs.YtkejdbidomlonaaGreatDoor
