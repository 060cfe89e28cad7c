/- The program's rolling hashes, and where it cuts. -/
import Derived.Test.YtbmdoekfbkpaeaaGreatDoorRCdc
import Derived.Test.YtbmdoekfbkpaeaaGreatDoorJPPut12
import Derived.Test.YtbmdoekfbkpaeaaGreatDoorShelf
import Derived.Test.YtbmdoekfbkpaeaaGreatDoorJR11
import Derived.Shelf.Spec.TrailingZeros
import Derived.Sort.CutIn
namespace Go.Proofs.YtbmdoekfbkpaeaaGreatDoor
open Go.RowKit
attribute [local go_sem] Oper.semAt_some

set_option maxHeartbeats 1000000 in
theorem gfold_walk (m t : Int) (k d : Nat) (hk : k ≤ 64) (hd : 2 ^ k = d) (w : World) : Calls Tryz.prog 145 #[.int .u64 m, .int .i64 k, .int .u64 t] w fun e w' => e = .returned (.int .u64 (mixG m d t)) ∧ w' = w := by
  have HD := Lib.hid (show IntKind.u64.wrap (bits .xor .u64 m (m / 2 ^ k) * t) = mixG m d t by unfold mixG; rw [← hd, Int.natCast_pow]; rfl)
  have h0 : ¬ (k : Int) < 0 := by omega
  clear hd
  go_enter Tryz.func145, Tryz.ntmps145
  go_wp2
  go_ret
  exact ⟨congrArg (fun t => Ending.returned (Value.int IntKind.u64 t)) HD.out, rfl⟩
set_option maxHeartbeats 1000000 in
theorem gchain_walk (m : Int) (w : World) : Calls Tryz.prog 144 #[.int .u64 m, .func (.func 145) #[] #[]] w fun e w' => e = .returned (.int .u64 (mixG (mixG (mixG m 1073741824 13787848793156543929) 134217728 10723151780598845931) 2147483648 1)) ∧ w' = w := by
  have C1 := gfold_walk m 13787848793156543929 30 1073741824 (by decide) (by decide) w
  have C2 := gfold_walk (mixG m 1073741824 13787848793156543929) 10723151780598845931 27 134217728 (by decide) (by decide) w
  have C3 := gfold_walk (mixG (mixG m 1073741824 13787848793156543929) 134217728 10723151780598845931) 1 31 2147483648 (by decide) (by decide) w
  rw [show ((1073741824 : Nat) : Int) = 1073741824 from rfl] at C1
  rw [show ((134217728 : Nat) : Int) = 134217728 from rfl] at C2
  rw [show ((2147483648 : Nat) : Int) = 2147483648 from rfl] at C3
  generalize mixG (mixG (mixG m 1073741824 13787848793156543929) 134217728 10723151780598845931) 2147483648 1 = m3 at *
  generalize mixG (mixG m 1073741824 13787848793156543929) 134217728 10723151780598845931 = m2 at *
  generalize mixG m 1073741824 13787848793156543929 = m1 at *
  go_enter Tryz.func144, Tryz.ntmps144
  go_wp2_with fail
  refine C1.mono ?_
  rintro e w1 ⟨rfl, rfl⟩
  go_wp2_with fail
  refine C2.mono ?_
  rintro e w2 ⟨rfl, rfl⟩
  go_wp2_with fail
  refine C3.mono ?_
  rintro e w3 ⟨rfl, rfl⟩
  go_wp2
  go_ret
  exact ⟨rfl, rfl⟩
theorem gtable_walk (b : UInt8) (w : World) : Calls Tryz.prog 138 #[.int .u8 (b.toNat : Nat)] w fun e w' => e = .returned (.int .u64 (tabG b)) ∧ w' = w := by
  have C := gchain_walk (IntKind.u64.wrap (IntKind.u64.wrap (IntKind.u64.wrap ((b.toNat : Nat) : Int) + 1) * 11400714819323198485)) w
  have HT := Lib.hid (show mixG (mixG (mixG (IntKind.u64.wrap (IntKind.u64.wrap (IntKind.u64.wrap ((b.toNat : Nat) : Int) + 1) * 11400714819323198485)) 1073741824 13787848793156543929) 134217728 10723151780598845931) 2147483648 1 = tabG b from rfl)
  generalize tabG b = tb at *
  rw [HT.out] at C
  clear HT
  go_enter Tryz.func138, Tryz.ntmps138
  go_wp2_with fail
  refine C.mono ?_
  rintro e w1 ⟨rfl, rfl⟩
  go_wp2
  go_ret
  exact ⟨rfl, rfl⟩
theorem groll_walk (h : Int) (b : UInt8) (w : World) : Calls Tryz.prog 127 #[.int .u64 h, .int .u8 (b.toNat : Nat)] w fun e w' => e = .returned (.int .u64 (rollG h b)) ∧ w' = w := by
  have C := gtable_walk b w
  have HR := Lib.hid (show IntKind.u64.wrap (IntKind.u64.wrap (h * 2) + tabG b) = rollG h b from rfl)
  generalize rollG h b = r at *
  generalize tabG b = t at *
  go_enter Tryz.func127, Tryz.ntmps127
  go_wp2_with fail
  refine C.mono ?_
  rintro e w1 ⟨rfl, rfl⟩
  go_wp2
  go_ret
  exact ⟨congrArg (fun t => Ending.returned (Value.int IntKind.u64 t)) HR.out, rfl⟩

/-! Hashes, handed out. -/
def hsL : Nat → Int → List UInt8 → List (Nat × Int)
  | _, _, [] => []
  | i, h, c :: t => (i, rollG h c) :: hsL (i + 1) (rollG h c) t
theorem hsL_at {i j : Nat} {h : Int} {l : List UInt8} (hj : j < l.length) : hsL i h (l.drop j) = (i, rollG h l[j]) :: hsL (i + 1) (rollG h l[j]) (l.drop (j + 1)) := by
  rw [List.drop_eq_getElem_cons hj]; rfl
/-- Behind some hashes that are none to cut at. -/
theorem goC_pre {k : Nat} : ∀ (pre : List (Nat × Int)) (i : Nat) (h : Int) (l : List UInt8), pre <+: hsL i h l → (∀ y ∈ pre, cutB k y.1 y.2 = false) →
    (pre = hsL i h l → goC k i h l = i + l.length) ∧ ∀ e, pre ++ [e] <+: hsL i h l → cutB k e.1 e.2 = true → goC k i h l = e.1 + 1
  | [], i, h, l, _, _ => by
    constructor
    · intro e
      cases l with
      | nil => simp [goC]
      | cons => simp [hsL] at e
    · intro e he hc
      cases l with
      | nil => simp [hsL] at he
      | cons c t =>
        rw [hsL, List.nil_append, List.cons_prefix_cons] at he
        obtain ⟨rfl, _⟩ := he
        unfold goC
        rw [if_pos hc]
  | y :: pre, i, h, l, hp, hn => by
    cases l with
    | nil => simp [hsL] at hp
    | cons c t =>
      rw [hsL, List.cons_prefix_cons] at hp
      obtain ⟨rfl, hp⟩ := hp
      obtain ⟨h1, h2⟩ := goC_pre (k := k) pre (i + 1) (rollG h c) t hp (fun z hz => hn z (List.mem_cons_of_mem _ hz))
      have hc := hn _ List.mem_cons_self
      simp only at hc
      have hg : goC k i h (c :: t) = goC k (i + 1) (rollG h c) t := by
        rw [goC, if_neg (by rw [hc]; decide)]
      rw [hg]
      constructor
      · intro e
        rw [hsL, List.cons.injEq] at e
        rw [h1 e.2, List.length_cons]; omega
      · intro e he hc2
        rw [hsL, List.cons_append, List.cons_prefix_cons] at he
        exact h2 e he.2 hc2
theorem hsL_range : ∀ (l : List UInt8) (i : Nat) (h : Int), ∀ y ∈ hsL i h l, i ≤ y.1 ∧ y.1 < i + l.length ∧ 0 ≤ y.2 ∧ y.2 < 18446744073709551616
  | [], _, _, y, hy => by simp [hsL] at hy
  | c :: t, i, h, y, hy => by
    rw [hsL] at hy
    rcases List.mem_cons.1 hy with rfl | hy
    · have := rollG_range h c
      simp; omega
    · have := hsL_range t (i + 1) (rollG h c) y hy
      simp; omega
section
variable {x k z : Nat} {s : List UInt8}
/-- The hashes of a text that is to be cut. -/
def hsT (x z : Nat) (s : List UInt8) : List (Nat × Int) := hsL x 0 ((s.take z).drop x)
theorem cutC_done (hf : FitC x k z) (h : ∀ y ∈ hsT x z s, cutB k y.1 y.2 = false) : cutC x k z s = min s.length z := by
  have h1 := hf.xy
  have h2 := hf.yz
  unfold cutC
  split
  · omega
  · rw [(goC_pre (k := k) _ x 0 _ (List.prefix_refl _) h).1 rfl, List.length_drop, List.length_take]; omega
theorem cutC_stop {pre : List (Nat × Int)} {e : Nat × Int} (hp : pre ++ [e] <+: hsT x z s) (h : ∀ y ∈ pre, cutB k y.1 y.2 = false) (hc : cutB k e.1 e.2 = true) : cutC x k z s = e.1 + 1 := by
  have hp2 : pre <+: hsT x z s := (List.prefix_append _ _).trans hp
  unfold cutC
  split
  · rename_i hl
    have : hsT x z s = [] := by
      unfold hsT
      rw [List.drop_eq_nil_of_le (by rw [List.length_take]; omega)]; rfl
    rw [this] at hp
    simp at hp
  · exact (goC_pre (k := k) pre x 0 _ hp2 h).2 e hp hc
end

theorem hashes_walk (s : List UInt8) (x n : Nat) (w : World) :
    Calls Tryz.prog 108 #[S s, .int .i64 x, .int .i64 n] w fun e w' => e = .returned (.func (.func 126) #[] #[.pointer (some ⟨w.heap.size + 1, 0, none⟩), .pointer (some ⟨w.heap.size + 2, 0, none⟩), .pointer (some ⟨w.heap.size, 0, none⟩)]) ∧ w' = ((w.alloc (.cells #[S s] 9)).alloc (.cells #[.int .i64 x] 3)).alloc (.cells #[.int .i64 n] 3) := by
  go_enter Tryz.func108, Tryz.ntmps108
  go_wp2
  go_ret
  exact ⟨by simp [go_sem], rfl⟩

/-- What a round must keep of an iterator's: some blocks. -/
def KpS (K : Nat → Prop) (W W' : World) : Prop := W.heap.size ≤ W'.heap.size ∧ ∀ k, K k → W'.heap[k]? = W.heap[k]?
theorem KpS.refl (K : Nat → Prop) (W : World) : KpS K W W := ⟨Nat.le_refl _, fun _ _ => rfl⟩
theorem KpS.trans {K : Nat → Prop} {X Y Z : World} (h : KpS K X Y) (k : KpS K Y Z) : KpS K X Z := ⟨Nat.le_trans h.1 k.1, fun i hi => (k.2 i hi).trans (h.2 i hi)⟩
theorem KpS.put {K : Nat → Prop} (W : World) (l : Nat) (o : Obj) (h : ¬ K l) : KpS K W (W.putObj l o) :=
  ⟨by simp, fun k hk => World.putObj_heap_other (by rintro rfl; exact h hk)⟩
theorem KpS.allocs {K : Nat → Prop} (W : World) (o o' : Obj) (h : ∀ k, K k → k < W.heap.size) : KpS K W ((W.alloc o).alloc o') :=
  ⟨by simp; omega, fun k hk => (Below.heap_alloc _ _ _ (by have := h k hk; simp; omega)).trans (Below.heap_alloc _ _ _ (h k hk))⟩
theorem KpS.below {K : Nat → Prop} {W W' : World} (h : Below W.heap.size W W') (hk : ∀ k, K k → k < W.heap.size) : KpS K W W' := ⟨h.size, fun k hk' => h.block k (hk k hk')⟩
theorem KpS.setCell {K : Nat → Prop} (W : World) (a : Addr) (v : Value) (h : ¬ K a.block) : KpS K W (W.setCell a v) :=
  ⟨Nat.le_of_eq (size_setCell _ _ _).symm, fun k hk => Below.heap_setCell W a v _ (by rintro rfl; exact h hk)⟩
def encH (y : Nat × Int) : Array Value := #[.int .i64 y.1, .int .u64 y.2]

set_option maxHeartbeats 4000000 in
set_option maxRecDepth 100000 in
theorem hashes_iter (b x n : Nat) (s : List UInt8) (w : World) (h1 : Boxed w b 9 (S s)) (h2 : Boxed w (b + 1) 3 (.int .i64 x)) (h3 : Boxed w (b + 2) 3 (.int .i64 n)) (hn : n ≤ s.length) (hs : s.length ≤ 1100000) :
    IterOf Tryz.prog 126 #[.pointer (some ⟨b + 1, 0, none⟩), .pointer (some ⟨b + 2, 0, none⟩), .pointer (some ⟨b, 0, none⟩)] (fun _ => False) (KpS fun k => k = b ∨ k = b + 1 ∨ k = b + 2) encH (hsL x 0 ((s.take n).drop x)) w := by
  intro ly J Jx W hKp hsz hJ hJx hY h0
  obtain ⟨all, hall⟩ : ∃ all, hsL x 0 ((s.take n).drop x) = all := ⟨_, rfl⟩
  have HX := Lib.hid (show all = [] ++ hsL x 0 ((s.take n).drop x) from hall.symm)
  rw [hall] at hY
  rw [hall]
  clear hall
  have HC := Lib.hid (fun (wr : World) (hk : KpS (fun k => k = b ∨ k = b + 1 ∨ k = b + 2) W wr) => show wr.cell? ⟨b + 1, 0, none⟩ = some (.int .i64 x) ∧ wr.cell? ⟨b + 2, 0, none⟩ = some (.int .i64 n) ∧ wr.cell? ⟨b, 0, none⟩ = some (S s) from
    ⟨((hKp.trans hk).2 _ (by simp)).trans h2 |> Boxed.cell, ((hKp.trans hk).2 _ (by simp)).trans h3 |> Boxed.cell, ((hKp.trans hk).2 _ (by simp)).trans h1 |> Boxed.cell⟩)
  obtain ⟨c1, c2, c3⟩ := HC.out W (KpS.refl _ _)
  clear h1 h2 h3 hKp hsz
  refine (callsIn_wide (n := 3)).1 ?_
  refine callsIn_of_wp Tryz.func126 rfl trivial ?_ rfl
  simp only [Tryz.ntmps126, List.size_toArray, List.length_cons, List.length_nil, Nat.reduceAdd, Nat.reduceSub, Array.replicate_succ, Array.replicate_zero, List.push_toArray, List.append_toArray, List.nil_append, List.cons_append]
  gi_wp2
  gi_loopw [5, 6] (fun hv i wr => ∃ (j : Nat) (h : Int) (pre : List (Nat × Int)), i = .int .i64 j ∧ hv = .int .u64 h ∧ J pre wr ∧ KpS (fun k => k = b ∨ k = b + 1 ∨ k = b + 2) W wr ∧ all = pre ++ hsL j h ((s.take n).drop j)) (fun _ i _ => s.length + 1 - (intOf i).toNat)
  case atStart => exact ⟨x, 0, [], rfl, rfl, h0, KpS.refl _ _, HX.out⟩
  case round =>
    clear c1 c2 c3 HX h0
    obtain ⟨j, h, pre, rfl, rfl, hJp, hk, hall⟩ := hrel
    have HALL := Lib.hid hall
    clear hall
    obtain ⟨c1, c2, c3⟩ := HC.out wr hk
    by_cases g : j < n
    · have g' : (j : Int) < (n : Int) := by omega
      have hjs : j < s.length := by omega
      have hlt : j < (s.take n).length := by rw [List.length_take]; omega
      have hst := hsL_at (i := j) (h := h) hlt
      rw [List.getElem_take] at hst
      have HX := Lib.hid (HALL.out.trans (by rw [hst]))
      have C := groll_walk h s[j] wr
      have HJ := Lib.hid (hY pre (j, rollG h s[j]) wr hJp ⟨hsL (j + 1) (rollG h s[j]) ((s.take n).drop (j + 1)), by rw [HX.out]; simp⟩)
      clear hst HALL
      generalize rollG h s[j] = h' at *
      obtain ⟨fn, tmps, assign, body, hy, hR⟩ := HJ.out
      simp only [encH] at hy
      gi_wp2_with (refine ⟨trivial, ?_⟩; gi_at_call 127; refine (callsIn_wide.2 C).mono ?_; rintro e w1 ⟨rfl, rfl⟩)
      refine hR.mono ?_
      rintro e w4 (⟨rfl, hJ4, hk4⟩ | ⟨rfl, hJx4⟩)
      · have HJ4 := Lib.hid hJ4
        have HK4 := Lib.hid (hk.trans hk4)
        clear hJ4 hk4 c1 c2 c3 C hy hR
        gi_wp2
        go_roundw
        case rel => exact ⟨j + 1, h', _, by go_num, rfl, HJ4.out, HK4.out, by rw [HX.out]; simp⟩
        case measure => simp [intOf]; omega
      · gi_wp2
        refine bodyPost_ret (results_none rfl _ _ _) rfl ?_
        exact ⟨⟨_, rfl⟩, .inr ⟨pre ++ [(j, h')], ⟨hsL (j + 1) h' ((s.take n).drop (j + 1)), by rw [HX.out]; simp⟩, hJx4⟩⟩
    · have g' : ¬ (j : Int) < (n : Int) := by omega
      have HE := Lib.hid (show all = pre by rw [HALL.out, List.drop_eq_nil_of_le (by rw [List.length_take]; omega)]; simp [hsL])
      gi_wp2
      go_end0
      exact ⟨⟨_, rfl⟩, .inl (by rw [HE.out]; exact hJp)⟩

/-- The library's table of places, as it is laid. -/
def TzT (w : World) : Prop := ∀ k : Nat, 1 ≤ k → k ≤ 12 → w.cell? ⟨2, 2 ^ k * 285870213051353865 % 18446744073709551616 / 288230376151711744, none⟩ = some (.int .u8 k)
theorem TzT.below {w w' : World} (h : TzT w) (hb : Below w.heap.size w w') : TzT w' := fun k h1 h2 => cell_below hb (h k h1 h2)
theorem tz_low {k : Nat} (hk : k ≤ 12) : 2 ^ k &&& (18446744073709551616 - 2 ^ k) = 2 ^ k := by
  have : k = 0 ∨ k = 1 ∨ k = 2 ∨ k = 3 ∨ k = 4 ∨ k = 5 ∨ k = 6 ∨ k = 7 ∨ k = 8 ∨ k = 9 ∨ k = 10 ∨ k = 11 ∨ k = 12 := by omega
  rcases this with rfl | rfl | rfl | rfl | rfl | rfl | rfl | rfl | rfl | rfl | rfl | rfl | rfl <;> decide +kernel
set_option maxHeartbeats 1000000 in
theorem ptz64_core (y k idx : Nat) (w : World) (hx0 : ((y : Int) == 0) = false)
    (key : IntKind.u64.wrap (bits BinOp.and IntKind.u64 (y : Int) (IntKind.u64.wrap (-(y : Int))) * 285870213051353865) / 288230376151711744 = (idx : Int))
    (hi : idx < 64) (hk : k < 64) (hcell : w.cell? ⟨2, idx, none⟩ = some (.int .u8 k)) :
    Calls Tryz.prog 125 #[.int .u64 (y : Nat)] w fun e w' => e = .returned (.int .i64 (k : Nat)) ∧ w' = w := by
  go_enter Tryz.func125, Tryz.ntmps125
  go_wp2_with (simp only [key])
  go_ret
  exact ⟨rfl, rfl⟩
theorem tz_idx (a : Nat) : a % 18446744073709551616 / 288230376151711744 < 64 := by omega
theorem ptz64_walk (k y : Nat) (h1 : 1 ≤ k) (h2 : k ≤ 12) (hy : 2 ^ k = y) (w : World) (hT : TzT w) : Calls Tryz.prog 125 #[.int .u64 (y : Nat)] w fun e w' => e = .returned (.int .i64 (k : Nat)) ∧ w' = w := by
  have hp : 2 ^ k ≤ 4096 := Nat.pow_le_pow_right (n := 2) (by decide) h2
  have hq : 0 < 2 ^ k := Nat.two_pow_pos k
  have key := tz64_key (2 ^ k) (2 ^ k) (by omega) (by omega) (tz_low h2)
  have hc := hT k h1 h2
  have hlt := tz_idx (2 ^ k * 285870213051353865)
  subst hy
  exact ptz64_core (2 ^ k) k _ w (by rw [beq_eq_false_iff_ne]; omega) key hlt (by omega) hc
theorem ptz_walk (k y : Nat) (h1 : 1 ≤ k) (h2 : k ≤ 12) (hy : 2 ^ k = y) (w : World) (hT : TzT w) : Calls Tryz.prog 107 #[.int .u64 (y : Nat)] w fun e w' => e = .returned (.int .i64 (k : Nat)) ∧ w' = w := by
  have C := ptz64_walk k y h1 h2 hy w hT
  clear hy hT
  go_enter Tryz.func107, Tryz.ntmps107
  go_wp2_with fail
  refine C.mono ?_
  rintro e w1 ⟨rfl, rfl⟩
  go_wp2
  go_ret
  exact ⟨rfl, rfl⟩

/-- Between two rounds of Cut, and where one has left. -/
def CutI (w : World) (x k y z : Nat) (s : List UInt8) (pre : List (Nat × Int)) (W : World) : Prop :=
  (Boxed W (w.heap.size + 1) 3 (.int .i64 ((min s.length z : Nat) : Int)) ∧ Boxed W (w.heap.size + 2) 3 (.int .i64 (k : Nat)) ∧ W.heap[w.heap.size]? = some (.cells #[.int .i64 (x : Nat), .int .i64 (y : Nat), .int .i64 (z : Nat)] 23 (0, 0))) ∧ (Below w.heap.size w W ∧ w.heap.size + 6 ≤ W.heap.size) ∧ ∀ e ∈ pre, cutB k e.1 e.2 = false
def CutX (w : World) (x k z : Nat) (s : List UInt8) (c : Code) (_ : List (Nat × Int)) (W : World) : Prop :=
  c = .exit 0 ∧ Boxed W (w.heap.size + 1) 3 (.int .i64 ((cutC x k z s : Nat) : Int)) ∧ (Below w.heap.size w W ∧ w.heap.size + 6 ≤ W.heap.size)
theorem box_turn {k N : Nat} {o : Obj} {A B : World} {row : Option Nat} (h : A.heap[k]? = some o) (hg : A.grownBy B row) (hr : ∀ r, row = some r → False ∨ (N ≤ r ∧ ∃ o : Obj, A.heap[r]? = some o ∧ o.isCells = false)) (hk : k < N) : B.heap[k]? = some o := by
  refine (hg.block k (heap_lt h) (fun e => ?_)).trans h
  rcases hr k e.symm with h1 | ⟨h1, _⟩
  · exact h1
  · omega
theorem below_turns {w A B : World} {n N : Nat} {row : Option Nat} (h : Below n w A) (hg : A.grownBy B row) (hr : ∀ r, row = some r → False ∨ (N ≤ r ∧ ∃ o : Obj, A.heap[r]? = some o ∧ o.isCells = false)) (h1 : n ≤ A.heap.size) (hN : n ≤ N) : Below n w B :=
  h.grown hg h1 (fun r e => by rcases hr r e with h | ⟨h, _⟩; exact h.elim; omega)
theorem cutI_bides (w : World) (x k y z : Nat) (s : List UInt8) (N : Nat) (hN : w.heap.size + 6 ≤ N) : Bides (fun _ => False) N (CutI w x k y z s) := by
  rintro p A B row ⟨⟨h1, h2, h3⟩, ⟨h4, h5⟩, h6⟩ hg hr
  exact ⟨⟨box_turn h1 hg hr (by omega), box_turn h2 hg hr (by omega), box_turn h3 hg hr (by omega)⟩, ⟨below_turns h4 hg hr (by omega) (by omega), Nat.le_trans h5 hg.size⟩, h6⟩
theorem cutX_bides (w : World) (x k z : Nat) (s : List UInt8) (c : Code) (N : Nat) (hN : w.heap.size + 6 ≤ N) : Bides (fun _ => False) N (CutX w x k z s c) := by
  rintro p A B row ⟨h0, h1, ⟨h4, h5⟩⟩ hg hr
  exact ⟨h0, box_turn h1 hg hr (by omega), ⟨below_turns h4 hg hr (by omega) (by omega), Nat.le_trans h5 hg.size⟩⟩

set_option maxHeartbeats 4000000 in
set_option maxRecDepth 100000 in
theorem pcut_walk (x k y z : Nat) (s : List UInt8) (w : World) (hf : FitC x k z) (hpk : 2 ^ k = y) (hs : s.length ≤ 1100000) (hT : TzT w) :
    Calls Tryz.prog 92 #[PrmV x y z, S s] w fun e w' => e = .returned (.int .i64 (cutC x k z s : Nat)) ∧ Below w.heap.size w w' := by
  obtain ⟨w1, hw1, hb1, hc1⟩ : ∃ w1, w1 = w.alloc (.cells #[.int .i64 (x : Nat), .int .i64 (y : Nat), .int .i64 (z : Nat)] 23) ∧ Below w.heap.size w w1 ∧ w1.heap[w.heap.size]? = some (.cells #[.int .i64 (x : Nat), .int .i64 (y : Nat), .int .i64 (z : Nat)] 23 (0, 0)) :=
    ⟨_, rfl, (Below.refl _ _).alloc (Nat.le_refl _) _, heap_alloc_new _ _⟩
  have h1 := hf.k1
  have h2 := hf.k12
  have c0 := heap_cell hc1 (j := 0) (v := .int .i64 (x : Nat)) rfl
  have c1 := heap_cell hc1 (j := 1) (v := .int .i64 (y : Nat)) rfl
  have c2 := heap_cell hc1 (j := 2) (v := .int .i64 (z : Nat)) rfl
  refine (callsIn_wide (n := 3)).1 ?_
  refine callsIn_of_wp_marks Tryz.func92 rfl trivial ?_ rfl
  simp only [Tryz.ntmps92, List.size_toArray, List.length_cons, List.length_nil, Nat.reduceAdd, Nat.reduceSub, Array.replicate_succ, Array.replicate_zero, List.push_toArray, List.append_toArray, List.nil_append, List.cons_append]
  gi_upto_region 1 with fail
  rw [← hw1]
  refine wpIn_scope ?_
  gi_upto_region 1 with fail
  have HS1 := Lib.hid (show w1.heap.size = w.heap.size + 1 by rw [hw1]; simp)
  clear hw1
  have hmin : min (s.length : Int) (z : Int) = ((min s.length z : Nat) : Int) := by omega
  obtain ⟨w2, hw2, hb2, hn2, hs2⟩ : ∃ w2, w2 = w1.alloc (.cells #[.int .i64 ((min s.length z : Nat) : Int)] 3) ∧ Below w1.heap.size w1 w2 ∧ Boxed w2 (w.heap.size + 1) 3 (.int .i64 ((min s.length z : Nat) : Int)) ∧ w2.heap.size = w.heap.size + 2 :=
    ⟨_, rfl, (Below.refl _ _).alloc (Nat.le_refl _) _, by rw [← HS1.out]; exact Boxed.new _ _ _, by rw [World.size_alloc, HS1.out]⟩
  gi_upto_region 2 with fail
  rw [← hw2, HS1.out]
  have d0 := cell_below hb2 c0
  have d1 := cell_below hb2 c1
  have CT := ptz_walk k y h1 h2 hpk w2 (hT.below (below_chain hb1 hb2 hb1.size))
  have hyw : IntKind.u64.wrap (y : Int) = y := by
    have := hf.yz; have := hf.z4; rw [IntKind.wrap_u64]; omega
  clear hw2 hmin
  gi_wp2_with (refine ⟨trivial, ?_⟩; gi_at_call 107; refine (callsIn_wide.2 CT).mono ?_; rintro e w2 ⟨rfl, rfl⟩)
  have hs1 := HS1.out
  obtain ⟨w4, hw4, hb4, hu4, hs4⟩ : ∃ w4, w4 = w2.alloc (.cells #[.int .i64 (k : Nat)] 3) ∧ Below w2.heap.size w2 w4 ∧ Boxed w4 (w.heap.size + 2) 3 (.int .i64 (k : Nat)) ∧ w4.heap.size = w.heap.size + 3 :=
    ⟨_, rfl, (Below.refl _ _).alloc (Nat.le_refl _) _, by rw [← hs2]; exact Boxed.new _ _ _, by rw [World.size_alloc, hs2]⟩
  have hn4 : Boxed w4 (w.heap.size + 1) 3 (.int .i64 ((min s.length z : Nat) : Int)) := (hb4.block _ hn2.lt).trans hn2
  have hc4 := ((hb2.trans (hb4.mono hb2.size)).block _ (heap_lt hc1)).trans hc1
  rw [← hw4]
  have e0 := heap_cell hc4 (j := 0) (v := .int .i64 (x : Nat)) rfl
  have e1 := heap_cell hc4 (j := 1) (v := .int .i64 (y : Nat)) rfl
  have e2 := hn4.cell
  have e3 := hu4.cell
  clear hw4
  refine wpIn_label ?_
  gi_wp2_with (refine ⟨trivial, ?_⟩; gi_at_call 108; refine (callsIn_wide.2 (hashes_walk s x (min s.length z) _)).mono ?_; rintro e w' ⟨rfl, rfl⟩)
  obtain ⟨w5, hw5, hb5, hs5, q1, q2, q3⟩ : ∃ w5, w5 = ((w4.alloc (.cells #[S s] 9)).alloc (.cells #[.int .i64 (x : Nat)] 3)).alloc (.cells #[.int .i64 ((min s.length z : Nat) : Int)] 3) ∧ Below w4.heap.size w4 w5 ∧ w5.heap.size = w.heap.size + 6 ∧ Boxed w5 (w.heap.size + 3) 9 (S s) ∧ Boxed w5 (w.heap.size + 3 + 1) 3 (.int .i64 (x : Nat)) ∧ Boxed w5 (w.heap.size + 3 + 2) 3 (.int .i64 ((min s.length z : Nat) : Int)) := by
    refine ⟨_, rfl, (((Below.refl _ _).alloc (Nat.le_refl _) _).alloc (by simp) _).alloc (by simp; omega) _, by simp [hs4], ?_, ?_, ?_⟩
    · rw [← hs4]; exact ((Boxed.new _ _ _).alloc _).alloc _
    · have := (Boxed.new (w4.alloc (.cells #[S s] 9)) 3 (.int .i64 (x : Nat))).alloc (.cells #[.int .i64 ((min s.length z : Nat) : Int)] 3)
      rw [World.size_alloc, hs4] at this; exact this
    · have := Boxed.new ((w4.alloc (.cells #[S s] 9)).alloc (.cells #[.int .i64 (x : Nat)] 3)) 3 (.int .i64 ((min s.length z : Nat) : Int))
      rw [World.size_alloc, World.size_alloc, hs4] at this; exact this
  have HB5 := Lib.hid (show Below w.heap.size w w5 from below_chain (below_chain (below_chain hb1 hb2 hb1.size) hb4 (by omega)) hb5 (by omega))
  have r1 : Boxed w5 (w.heap.size + 1) 3 (.int .i64 ((min s.length z : Nat) : Int)) := (hb5.block _ hn4.lt).trans hn4
  have r2 : Boxed w5 (w.heap.size + 2) 3 (.int .i64 (k : Nat)) := (hb5.block _ hu4.lt).trans hu4
  have r3 := (hb5.block _ (heap_lt hc4)).trans hc4
  have hz4 := hf.z4
  have HITER := Lib.hid (hashes_iter (w.heap.size + 3) x (min s.length z) s w5 q1 q2 q3 (by omega) hs)
  have HTK := Lib.hid (show (s.take (min s.length z)).drop x = (s.take z).drop x by rw [← List.take_take, List.take_of_length_le (by rw [List.length_take]; omega)])
  rw [HTK.out] at HITER
  have HF := Lib.hid hf
  have HPK := Lib.hid hpk
  rw [← hw5]
  clear hw5 q1 q2 q3 e0 e1 e2 e3 c0 c1 c2 d0 d1 hc4 hu4 hn4 hb4 CT hb2 hn2 hb1 hc1 hT hb5 hyw hf HTK hpk
  refine range_law (gf := 126) (lb := #[.pointer (some ⟨w.heap.size + 3 + 1, 0, none⟩), .pointer (some ⟨w.heap.size + 3 + 2, 0, none⟩), .pointer (some ⟨w.heap.size + 3, 0, none⟩)]) rfl (enters_of Tryz.func126 (by kernel_rfl) rfl)
    HITER.out (fun r e => e.elim) (fun h k => KpS.trans h k) (fun W l o h => KpS.put W l o (by omega)) (fun o o' => KpS.allocs w5 o o' (fun k hk => by omega)) (fun x => rfl)
    (CutI w x k y z s) (CutX w x k z s) (cutI_bides w x k y z s _ (by omega)) (fun c => cutX_bides w x k z s c _ (by omega)) ⟨⟨r1, r2, r3⟩, ⟨HB5.out, by omega⟩, by simp⟩
    (fun e a' _ => a' = { tmps := #[PrmV x y z, S s, .pointer (some ⟨w.heap.size, 0, none⟩), undef, .int .i64 0, .pointer (some ⟨w.heap.size + 1, 0, none⟩), .pointer (some ⟨w.heap.size + 2, 0, none⟩), .int .i64 (e.1 : Nat), .int .u64 e.2, undef, S s, .int .i64 (s.length : Nat), .pointer (some ⟨w.heap.size, 2, none⟩), .int .i64 (z : Nat), .int .i64 ((min s.length z : Nat) : Int), .pointer (some ⟨w.heap.size, 1, none⟩), .int .i64 (y : Nat), .int .u64 (y : Nat), .int .i64 (k : Nat), S s, .pointer (some ⟨w.heap.size, 0, none⟩), .int .i64 (x : Nat), .int .i64 ((min s.length z : Nat) : Int), .func (.func 126) #[] #[.pointer (some ⟨w.heap.size + 3 + 1, 0, none⟩), .pointer (some ⟨w.heap.size + 3 + 2, 0, none⟩), .pointer (some ⟨w.heap.size + 3, 0, none⟩)], .int .i64 (e.1 : Nat), .int .u64 e.2, undef, undef, undef, undef, undef, undef, undef, undef, undef, undef, undef, undef, undef, undef, undef, undef, undef, undef, undef, undef, undef, undef, undef, undef, undef, undef], defers := [] })
    (fun x a' _ _ _ _ hs _ _ => hs) ?assign ?body ?done ?stop
  case assign =>
    intro ly pre e W K hI hK
    simp only [encH]
    gi_wp2
    exact hK _ _ (KeepsFrom.refl _ _) (KpS.refl _ _) hI rfl
  case body =>
    rintro ly pre ⟨i, h⟩ a' W hly _ ⟨⟨b1, b2, b3⟩, ⟨b4, b5⟩, b6⟩ rfl hpx
    have c0 := heap_cell b3 (j := 1) (v := .int .i64 (y : Nat)) rfl
    have c1 := b1.cell
    have c2 := b2.cell
    have f1 := b1.frozen
    obtain ⟨hi1, hi2, hh0, hh1⟩ := hsL_range _ _ _ (i, h) (hpx.subset (by simp))
    rw [List.length_drop, List.length_take] at hi2
    simp only at hi1 hi2 hh0 hh1
    have CZ := Tryz.bits_LeadingZeros64 h W hh0 (by omega)
    have HLO := Lib.hid (fun hy : i < y => cutB_lo (k := k) (i := i) h2 hh0 hh1 (by rw [HPK.out]; exact hy))
    have HHI := Lib.hid (fun hy : ¬ i < y => cutB_hi (k := k) (i := i) h1 h2 hh0 hh1 (by rw [HPK.out]; exact hy))
    have HPX := Lib.hid hpx
    have H123 := Lib.hid (And.intro b1 (And.intro b2 b3))
    have H45 := Lib.hid (And.intro b4 b5)
    have H6 := Lib.hid b6
    have HNO := Lib.hid (fun (hc : cutB k i h = false) => show KeepsFrom w5.heap.size W W ∧ KpS (fun k => k = w.heap.size + 3 ∨ k = w.heap.size + 3 + 1 ∨ k = w.heap.size + 3 + 2) W W ∧ CutI w x k y z s (pre ++ [(i, h)]) W from
      ⟨KeepsFrom.refl _ _, KpS.refl _ _, H123.out, H45.out, fun e he => by
        rcases List.mem_append.1 he with he | he
        · exact H6.out e he
        · rw [List.mem_singleton.1 he]; exact hc⟩)
    have HYES := Lib.hid (fun (hc : cutB k i h = true) => show KeepsFrom w5.heap.size W (W.setCell ⟨w.heap.size + 1, 0, none⟩ (.int .i64 ((i : Int) + 1))) ∧ CutX w x k z s (.exit 0) (pre ++ [(i, h)]) (W.setCell ⟨w.heap.size + 1, 0, none⟩ (.int .i64 ((i : Int) + 1))) from by
      have hcut := cutC_stop (x := x) (z := z) (s := s) HPX.out H6.out hc
      refine ⟨(KeepsOthers.setCell _ _ _).from _, rfl, ?_, H45.out.1.setCell (p := ⟨w.heap.size + 1, 0, none⟩) (Nat.le_succ _) _, by rw [size_setCell]; exact H45.out.2⟩
      rw [hcut]; exact H123.out.1.set _)
    generalize Lib.bitLen h.toNat = bl at *
    obtain ⟨zr, hzr⟩ : ∃ zr : Int, 64 - (bl : Int) = zr := ⟨_, rfl⟩
    rw [hzr] at CZ HLO HHI
    clear b1 b2 b3 b4 b5 b6 hpx hh0 hh1 hzr
    have hiw : IntKind.i64.wrap ((i : Int) + 1) = (i : Int) + 1 := by rw [IntKind.wrap_i64]; omega
    by_cases g1 : i < y
    · have g1' : (i : Int) < (y : Int) := by omega
      have HC := Lib.hid (HLO.out g1)
      clear HHI HLO
      by_cases g2 : zr ≤ (k : Int)
      · have HN := Lib.hid (HNO.out (by rw [HC.out, decide_eq_true g2]; rfl))
        gi_wp2_with (refine ⟨trivial, ?_⟩; gi_at_call 109; refine (callsIn_wide.2 CZ).mono ?_; rintro e w6 ⟨rfl, rfl⟩)
        exact HN.out
      · have HN := Lib.hid (HYES.out (by rw [HC.out, decide_eq_false g2]; rfl))
        gi_wp2_with (refine ⟨trivial, ?_⟩; gi_at_call 109; refine (callsIn_wide.2 CZ).mono ?_; rintro e w6 ⟨rfl, rfl⟩)
        exact HN.out
    · have g1' : ¬ (i : Int) < (y : Int) := by omega
      have HC := Lib.hid (HHI.out g1)
      clear HHI HLO
      by_cases g2 : zr < (k : Int) - 1
      · have HN := Lib.hid (HNO.out (by rw [HC.out, decide_eq_true g2]; rfl))
        gi_wp2_with (refine ⟨trivial, ?_⟩; gi_at_call 109; refine (callsIn_wide.2 CZ).mono ?_; rintro e w6 ⟨rfl, rfl⟩)
        exact HN.out
      · have HN := Lib.hid (HYES.out (by rw [HC.out, decide_eq_false g2]; rfl))
        gi_wp2_with (refine ⟨trivial, ?_⟩; gi_at_call 109; refine (callsIn_wide.2 CZ).mono ?_; rintro e w6 ⟨rfl, rfl⟩)
        exact HN.out
  case done =>
    rintro D W hD ⟨⟨b1, b2, b3⟩, ⟨b4, b5⟩, b6⟩ hK
    have HR := Lib.hid (show ((min s.length z : Nat) : Int) = ((cutC x k z s : Nat) : Int) by rw [cutC_done HF.out b6])
    have c1 := b1.cell
    gi_wp2
    refine ⟨by simp, .inl ⟨_, _, rfl, run_takeDeferred hK, ?_⟩⟩
    refine ⟨.int .i64 ((min s.length z : Nat) : Int), by simp [results, Tryz.results92, go_sem], by rw [HR.out], b4.grown (grownBy_putObj' _ D (.deferred none)) (by omega) (fun k e => by cases e; omega)⟩
  case stop =>
    rintro D c pre W hD hpre ⟨rfl, b1, b4, b5⟩ hK
    have c1 := b1.cell
    gi_wp2
    refine ⟨by simp, .inl ⟨_, _, rfl, run_takeDeferred hK, ?_⟩⟩
    refine ⟨.int .i64 ((cutC x k z s : Nat) : Int), by simp [results, Tryz.results92, go_sem], rfl, b4.grown (grownBy_putObj' _ D (.deferred none)) (by omega) (fun k e => by cases e; omega)⟩

set_option maxHeartbeats 4000000 in
set_option maxRecDepth 100000 in
theorem ppieces_walk (x k y z : Nat) (s : List UInt8) (w : World) (hf : FitC x k z) (hpk : 2 ^ k = y) (hs : s.length ≤ 1100000) (hT : TzT w) :
    Calls Tryz.prog 73 #[PrmV x y z, S s] w fun e w' => ∃ v, e = .returned v ∧ w'.ownsRow (w.heap.size + 1) 9 1 v (piecesC x k z s).length ((piecesC x k z s).map S) ∧ Below w.heap.size w w' := by
  obtain ⟨i0, hi, hz0, hz1, hz2⟩ := info_parts infoStr
  obtain ⟨w1, hw1, HB1, hc⟩ : ∃ w1, w1 = w.alloc (.cells #[.int .i64 (x : Nat), .int .i64 (y : Nat), .int .i64 (z : Nat)] 23) ∧ Below w.heap.size w w1 ∧ w1.heap[w.heap.size]? = some (.cells #[.int .i64 (x : Nat), .int .i64 (y : Nat), .int .i64 (z : Nat)] 23 (0, 0)) :=
    ⟨_, rfl, (Below.refl _ _).alloc (Nat.le_refl _) _, heap_alloc_new _ _⟩
  have HF := Lib.hid hf
  have HSZ := Lib.hid (show w1.heap.size = w.heap.size + 1 by rw [hw1]; simp)
  have HS1 := Lib.hid (heap_lt hc)
  have HCC := Lib.hid hc
  have HT := Lib.hid (hT.below HB1)
  have CC := fun (r : List UInt8) (W : World) (h : r.length ≤ 1100000) (hT : TzT W) => pcut_walk x k y z r W hf hpk h hT
  clear hc hf hT hpk
  go_enter Tryz.func73, Tryz.ntmps73
  go_upto_region 2 with fail
  rw [← hw1]
  clear hw1
  go_loopw [1, 5, 6] (fun sv v _ wr => ∃ (r : List UInt8) (dn : List (List UInt8)), sv = S r ∧ wr.ownsRow (w.heap.size + 1) 9 1 v dn.length (dn.map S) ∧ Below w1.heap.size w1 wr ∧ Hid (piecesC x k z s = dn ++ piecesC x k z r) ∧ r.length + dn.length ≤ s.length) (fun sv _ _ _ => lenV sv)
  case atStart => exact ⟨s, [], rfl, World.ownsRow_nil _ _ _ _, Below.refl _ _, Lib.hid rfl, by simp⟩
  case round =>
    obtain ⟨r, dn, rfl, hown, hB, HP, hl⟩ := hrel
    have HB := Lib.hid hB
    obtain ⟨⟨c0, c1, c2⟩, -⟩ : (wr.cell? ⟨w.heap.size, 0, none⟩ = some (.int .i64 (x : Nat)) ∧ wr.cell? ⟨w.heap.size, 1, none⟩ = some (.int .i64 (y : Nat)) ∧ wr.cell? ⟨w.heap.size, 2, none⟩ = some (.int .i64 (z : Nat))) ∧ True :=
      ⟨⟨heap_cell ((hB.block _ HS1.out).trans HCC.out) (j := 0) rfl, heap_cell ((hB.block _ HS1.out).trans HCC.out) (j := 1) rfl, heap_cell ((hB.block _ HS1.out).trans HCC.out) (j := 2) rfl⟩, trivial⟩
    by_cases hr : r = []
    · subst hr
      have HR := Lib.hid hown
      go_wp2
      go_ret
      exact ⟨_, rfl, by rw [HP.out, piecesC_nil, List.append_nil]; exact HR.out, HB1.trans (HB.out.mono HB1.size)⟩
    · have hne : (0 : Int) < (r.length : Int) := by have := List.length_pos_iff.2 hr; omega
      have C := CC r wr (by omega) (HT.out.below hB)
      have HCP := Lib.hid (cutC_pos HF.out hr)
      have HCL := Lib.hid (cutC_le (x := x) (k := k) (z := z) (s := r))
      have HPC := Lib.hid (piecesC_cons HF.out hr)
      have hle : cutC x k z r ≤ r.length := cutC_le
      have HOWN := Lib.hid hown
      clear CC hB hown hr
      generalize cutC x k z r = n at *
      go_wp2_with fail
      refine C.mono ?_
      rintro e w2 ⟨rfl, hb2⟩
      have hown2 := own_on HOWN.out hb2
      have HB2 := Lib.hid (below_chain HB.out hb2 HB.out.size)
      clear C hb2 c0 c1 c2
      go_upto_region 4 with fail
      obtain ⟨w3, hw3, HOWN3, HB3⟩ : ∃ w3 : World, w3 = { w2 with drawn := w2.drawn + 1 } ∧ Hid (w3.ownsRow (w.heap.size + 1) 9 1 u5 dn.length (dn.map S)) ∧ Hid (Below w1.heap.size w1 w3) :=
        ⟨_, rfl, Lib.hid (own_on hown2 ⟨rfl, rfl, rfl, Nat.le_refl _, fun _ _ => rfl⟩), Lib.hid (HB2.out.trans ⟨rfl, rfl, rfl, Nat.le_refl _, fun _ _ => rfl⟩)⟩
      (refine wp_region_held (S := fun _ => True) (by kernel_rfl) ?_)
      rw [← hw3]
      clear hw3 hown2
      have hn1 : (n : Int) ≤ (r.length : Int) := by omega
      have hn0 : ¬ ((n : Int) < 0) := by omega
      have hwr : IntKind.i64.wrap (n : Int) = (n : Int) := by rw [IntKind.wrap_i64]; omega
      (refine wpAnyH_take (i := 0) (v := ?_) rfl (by kernel_rfl) (by kernel_rfl) (by kernel_rfl) (fun _ _ _ h => h) (Or.inl ⟨by rfl, ?_⟩) (by exact trivial) ?_; rotate_left; (intro w9 hS9; skip; go_simp; try with_reducible rfl))
      (refine wpAnyH_take (i := 1) (v := ?_) rfl (by kernel_rfl) (by kernel_rfl) (by kernel_rfl) (fun _ _ _ h => h) (Or.inl ⟨by rfl, ?_⟩) (by exact trivial) ?_; rotate_left; (intro w9 hS9; skip; go_simp; try with_reducible rfl))
      (refine wpAnyH_take (i := 2) (v := ?_) rfl (by kernel_rfl) (by kernel_rfl) (by kernel_rfl) (fun _ _ _ h => h) (Or.inl ⟨by rfl, ?_⟩) (by exact trivial) ?_; rotate_left; (intro w9 hS9; skip; go_simp; try with_reducible rfl))
      (refine wpAnyH_take (i := 3) (v := ?_) rfl (by kernel_rfl) (by kernel_rfl) (by kernel_rfl) (fun _ _ _ h => h) (Or.inl ⟨by rfl, ?_⟩) (by exact trivial) ?_; rotate_left; (intro w9 hS9; skip; go_simp; try with_reducible rfl))
      (refine wpAnyH_take (i := 6) (v := ?_) rfl (by kernel_rfl) (by kernel_rfl) (by kernel_rfl) (fun _ _ _ h => h) (Or.inl ⟨by rfl, ?_⟩) (by exact trivial) ?_; rotate_left; (intro w9 hS9; skip; go_simp; try with_reducible rfl))
      (refine wpAnyH_take (i := 7) (v := ?_) rfl (by kernel_rfl) (by kernel_rfl) (by kernel_rfl) (fun _ _ _ h => h) (Or.inl ⟨by rfl, ?_⟩) (by exact trivial) ?_; rotate_left; (intro w9 hS9; skip; go_simp; try with_reducible rfl))
      (refine wpAnyH_take (i := 8) (v := ?_) rfl (by kernel_rfl) (by kernel_rfl) (by kernel_rfl) (fun _ _ _ h => h) (Or.inl ⟨by rfl, ?_⟩) (by exact trivial) ?_; rotate_left; (intro w9 hS9; skip; go_simp; try with_reducible rfl))
      have hcut1 : Value.string (({ data := r.toArray } : ByteArray).extract 0 n) = S (r.take n) := by rw [S_extract, cut_lo]
      have hcut2 : Value.string (({ data := r.toArray } : ByteArray).extract n r.length) = S (r.drop n) := by rw [S_extract, cut_hi]
      rw [hcut1, hcut2]
      clear hcut1 hcut2
      have HO4 := Lib.hid (HOWN3.out.alloc (.cells #[S (r.take n)] 9))
      have HNC := Lib.hid (new_cell w3 (S (r.take n)) 9)
      (refine wpAnyH_one (i := 4) (by kernel_rfl) rfl (fun K hK => ?_); go_simp; refine hK _ _ (trivial) ?_; clear hK K)
      refine wpAnyH_one (i := 5) (by kernel_rfl) rfl (fun K hK => ?_)
      rw [if_pos (by rfl)]
      refine wp_append_own _ (.tmp 13) (.tmp 17) 32 rfl (w.heap.size + 1) 9 i0 (.string ⟨#[]⟩) 1 16 Tryz.underlying32 hi hz0 hz1 hz2 rfl (by decide) u5 dn.length (dn.map S) rfl HO4.out ⟨w3.heap.size, 0, none⟩ 1 1 [S (r.take n)] rfl rfl HNC.out (by intro u hu; simp at hu; subst hu; rfl) (by unfold maxLen; omega) (by omega) (by simp; have := HB3.out.size; have := HSZ.out; omega) ?_
      intro v' w5 hown5 hgrow _
      have HB5 := Lib.hid ((HB3.out.alloc HB3.out.size _).grown hgrow (by simp; have := HB3.out.size; omega) (fun j hj => by have := (HO4.out.lt j hj).1; have := HSZ.out; omega))
      have HO5 := Lib.hid hown5
      clear hown5
      refine hK _ _ trivial ?_
      clear hK K hgrow
      (refine wpAnyH_take (i := 9) (v := ?_) rfl (by kernel_rfl) (by kernel_rfl) (by kernel_rfl) (fun _ _ _ h => h) (Or.inl ⟨by rfl, ?_⟩) (by exact trivial) ?_; rotate_left; (intro w9 hS9; skip; go_simp; try with_reducible rfl))
      (refine wpAnyH_take (i := 10) (v := ?_) rfl (by kernel_rfl) (by kernel_rfl) (by kernel_rfl) (fun _ _ _ h => h) (Or.inl ⟨by rfl, ?_⟩) (by exact trivial) ?_; rotate_left; (intro w9 hS9; skip; go_simp; try with_reducible rfl))
      (refine wpAnyH_done (by kernel_rfl) ?_ _)
      go_wp2
      go_roundw
      case rel => exact ⟨dn ++ [r.take n], by simpa using HO5.out, HB5.out, Lib.hid (by rw [HP.out, HPC.out, List.append_assoc]; rfl), by have := HCP.out; simp; omega⟩
      case measure =>
        have := HCP.out
        rw [lenV_S, lenV_S, List.length_drop]
        omega
end Go.Proofs.YtbmdoekfbkpaeaaGreatDoor
