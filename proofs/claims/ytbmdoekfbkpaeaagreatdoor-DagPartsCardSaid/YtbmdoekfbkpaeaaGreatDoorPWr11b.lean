/- The program's bytes of nodes, and their keys. -/
import Derived.Test.YtbmdoekfbkpaeaaGreatDoorJPWr11
import Derived.Test.YtbmdoekfbkpaeaaGreatDoorPSha5
import Derived.Test.YtbmdoekfbkpaeaaGreatDoorR11c
import Derived.Test.YtbmdoekfbkpaeaaGreatDoorJKeyNP
namespace Go.Proofs.YtbmdoekfbkpaeaaGreatDoor
open Go.RowKit

theorem putV_pos (n : Nat) : 0 < (putV n).length := by
  rw [putV]
  split <;> simp

set_option maxHeartbeats 4000000 in
set_option maxRecDepth 100000 in
theorem partbytes_walk (key : List UInt8) (N : Nat) (w : World) (hk : key.length ≤ 32) (hN : N ≤ 4096) :
    Calls Tryz.prog 96 #[PrtV (key, (N : Int))] w fun e w' => e = .returned (S (partW (key, (N : Int)))) ∧ Below w.heap.size w w' := by
  obtain ⟨w1, hw1, hb1, hz⟩ : ∃ w1, w1 = w.alloc (.cells #[S key, .int .i64 (N : Int)] 65) ∧ Below w.heap.size w w1 ∧ w1.heap[w.heap.size]? = some (.cells #[S key, .int .i64 (N : Int)] 65 (0, 0)) :=
    ⟨_, rfl, (Below.refl _ _).alloc (Nat.le_refl _) _, heap_alloc_new _ _⟩
  have CP := fun W => pput_walk N W (by omega)
  have HPW := Lib.hid (show partW (key, (N : Int)) = key ++ putV N from rfl)
  have hpv := putV_len (n := N) (by omega)
  generalize putV N = pv at *
  generalize partW (key, (N : Int)) = pw at *
  have hcat : (⟨key.toArray⟩ : ByteArray) ++ (⟨pv.toArray⟩ : ByteArray) = ⟨pw.toArray⟩ := by rw [HPW.out]; exact ba_cat key pv
  have hns : ¬ 9223372036854775807 < key.length + pv.length := by omega
  have hlw : IntKind.u64.wrap (N : Int) = (N : Int) := by simp only [IntKind.wrap, IntKind.bits, IntKind.signed]; simp; omega
  obtain ⟨⟨z0, z1⟩, -, -⟩ := box2 hz
  have l0 := LaterOf.cell z0
  have l1 := LaterOf.cell z1
  clear hz z0 z1
  go_enter Tryz.func96, Tryz.ntmps96
  go_upto_region 1 with fail
  rw [← hw1]
  clear hw1
  (refine wp_region_later (by kernel_rfl) (by kernel_rfl) ?_; (repeat (go_big_quiet_step ((go_at_call 118; exact LaterOf.call _ (CP _))))); refine wpQuiet_nil ?_; intro _ hw1; obtain ⟨lw, hw2⟩ := hw1; subst hw2)
  go_wp2
  go_ret
  exact ⟨rfl, below_chain hb1 lw.below hb1.size⟩

set_option maxHeartbeats 4000000 in
set_option maxRecDepth 100000 in
theorem entrybytes_walk (nm key : List UInt8) (ek : Int) (ex : Bool) (w : World) (hn : nm.length ≤ 31) (hkl : key.length ≤ 32) (hek : ek = 2 ∨ ek = 3) :
    Calls Tryz.prog 98 #[EntV (nm, ek, ex, key)] w fun e w' => e = .returned (S (entW (nm, ek, ex, key))) ∧ Below w.heap.size w w' := by
  obtain ⟨w1, hw1, hb1, hz⟩ : ∃ w1, w1 = w.alloc (.cells #[S nm, .int .i64 ek, .bool ex, S key] 69) ∧ Below w.heap.size w w1 ∧ w1.heap[w.heap.size]? = some (.cells #[S nm, .int .i64 ek, .bool ex, S key] 69 (0, 0)) :=
    ⟨_, rfl, (Below.refl _ _).alloc (Nat.le_refl _) _, heap_alloc_new _ _⟩
  have CP := fun W => pputtext_walk nm W (by omega)
  have HEW := Lib.hid (show entW (nm, ek, ex, key) = putText nm ++ [kindW (nm, ek, ex, key)] ++ key from rfl)
  obtain ⟨kc, hkc⟩ : ∃ kc, kindW (nm, ek, ex, key) = kc := ⟨_, rfl⟩
  rw [hkc] at HEW
  have hkv : (kc.toNat : Int) = if ex = true then ek + 4 else ek := by
    rw [← hkc]; unfold kindW
    rcases hek with rfl | rfl <;> cases ex <;> rfl
  have hek1 : IntKind.u8.wrap ek = ek := by rcases hek with rfl | rfl <;> rfl
  have hor : bits BinOp.or IntKind.u8 ek 4 = ek + 4 := by rcases hek with rfl | rfl <;> decide
  have hpv := putText_len nm (by omega)
  generalize putText nm = pt at *
  generalize entW (nm, ek, ex, key) = ew at *
  obtain ⟨U, hU⟩ : ∃ U, pt ++ [kc] = U := ⟨_, rfl⟩
  have hUl : U.length = pt.length + 1 := by rw [← hU, List.length_append]; rfl
  have hcat1 : (⟨pt.toArray⟩ : ByteArray) ++ (⟨#[kc]⟩ : ByteArray) = ⟨U.toArray⟩ := by rw [← hU]; exact ba_cat pt [kc]
  have hcat2 : (⟨U.toArray⟩ : ByteArray) ++ (⟨key.toArray⟩ : ByteArray) = ⟨ew.toArray⟩ := by rw [HEW.out, hU]; exact ba_cat U key
  have hns1 : ¬ 9223372036854775807 < pt.length + 1 := by omega
  have hns2 : ¬ 9223372036854775807 < U.length + key.length := by omega
  have hcv := pconv1 1 kc
  obtain ⟨⟨z0, z1, z2, z3⟩, -, -⟩ := box4 hz
  have HB1 := Lib.hid hb1
  have l0 := LaterOf.cell z0
  have l3 := LaterOf.cell z3
  clear hz hU hUl HEW hkc hb1 hpv hek
  go_enter Tryz.func98, Tryz.ntmps98
  go_upto_region 1 with fail
  rw [← hw1]
  clear hw1
  cases ex with
  | true =>
    rw [if_pos rfl] at hkv
    go_upto_region 4 with fail
    clear z0 z1 z2 z3
    (refine wp_held (by kernel_rfl) ?_; intro lw)
    (refine wpAnyH_take (i := 0) (v := ?_) rfl (by kernel_rfl) (by kernel_rfl) (by kernel_rfl) (fun _ _ _ h => h) (Or.inl ⟨by rfl, ?_⟩) ⟨_, rfl⟩ ?_; rotate_left; (intro w9 hS9; obtain ⟨p9, hp9⟩ := hS9; subst hp9; go_simp; try with_reducible rfl))
    (refine wpAnyH_take (i := 1) (v := ?_) rfl (by kernel_rfl) (by kernel_rfl) (by kernel_rfl) (fun _ _ _ h => h) (Or.inl ⟨by rfl, ?_⟩) ⟨_, rfl⟩ ?_; rotate_left; (intro w9 hS9; obtain ⟨p9, hp9⟩ := hS9; subst hp9; go_simp; try with_reducible rfl))
    (refine wpAnyH_take (i := 3) (v := ?_) rfl (by kernel_rfl) (by kernel_rfl) (by kernel_rfl) (fun _ _ _ h => h) (Or.inl ⟨by rfl, ?_⟩) ⟨_, rfl⟩ ?_; rotate_left; (intro w9 hS9; obtain ⟨p9, hp9⟩ := hS9; subst hp9; go_simp; try with_reducible rfl))
    (refine wpAnyH_take (i := 7) (v := ?_) rfl (by kernel_rfl) (by kernel_rfl) (by kernel_rfl) (fun _ _ _ h => h) (Or.inl ⟨by rfl, ?_⟩) ⟨_, rfl⟩ ?_; rotate_left; (intro w9 hS9; obtain ⟨p9, hp9⟩ := hS9; subst hp9; go_simp; try with_reducible rfl))
    (refine wpAnyH_take (i := 8) (v := ?_) rfl (by kernel_rfl) (by kernel_rfl) (by kernel_rfl) (fun _ _ _ h => h) (Or.inl ⟨by rfl, ?_⟩) ⟨_, rfl⟩ ?_; rotate_left; (intro w9 hS9; obtain ⟨p9, hp9⟩ := hS9; subst hp9; go_simp; try with_reducible rfl))
    refine wpAnyH_two (i := 2) (j := 4) (by kernel_rfl) rfl rfl (fun K hK => ?_) (fun K hK => ?_)
    · go_simp
      refine (CP _).mono ?_
      rintro e wz ⟨rfl, hbz⟩
      obtain ⟨lz, rfl⟩ : ∃ p : LaterOf w1, wz = p.world := ⟨⟨wz, below_chain lw.below hbz lw.below.size⟩, rfl⟩
      refine hK _ _ ⟨lz, rfl⟩ ?_
      clear hK K hbz
      refine wpAnyH_one (i := 4) (by kernel_rfl) rfl (fun K hK => ?_)
      go_simp
      obtain ⟨lb, hlb, hcell⟩ : ∃ p : LaterOf w1, lz.world.alloc (.cells #[.int .u8 (ek + 4)] 5) = p.world ∧ p.world.cell? ⟨lz.world.heap.size, 0, none⟩ = some (.int .u8 (ek + 4)) :=
        ⟨⟨_, lz.below.alloc lz.below.size _⟩, rfl, cell_new _ _ _ _ rfl⟩
      rw [hlb]
      refine hK _ _ ⟨lb, rfl⟩ ?_
      clear hK K hlb
      (refine wpAnyH_one (i := 5) (by kernel_rfl) rfl (fun K hK => ?_); go_simp; refine hK _ _ ⟨_, rfl⟩ ?_; clear hK K)
      (refine wpAnyH_one (i := 6) (by kernel_rfl) rfl (fun K hK => ?_); go_simp; refine hK _ _ ⟨_, rfl⟩ ?_; clear hK K)
      (refine wpAnyH_one (i := 9) (by kernel_rfl) rfl (fun K hK => ?_); go_simp; refine hK _ _ ⟨_, rfl⟩ ?_; clear hK K)
      (refine wpAnyH_one (i := 10) (by kernel_rfl) rfl (fun K hK => ?_); go_simp; refine hK _ _ ⟨_, rfl⟩ ?_; clear hK K)
      (refine wpAnyH_done (by kernel_rfl) ?_ _)
      go_wp2
      go_ret
      exact ⟨rfl, below_chain HB1.out lb.below HB1.out.size⟩
    · go_simp
      obtain ⟨lb, hlb, hcell⟩ : ∃ p : LaterOf w1, lw.world.alloc (.cells #[.int .u8 (ek + 4)] 5) = p.world ∧ p.world.cell? ⟨lw.world.heap.size, 0, none⟩ = some (.int .u8 (ek + 4)) :=
        ⟨⟨_, lw.below.alloc lw.below.size _⟩, rfl, cell_new _ _ _ _ rfl⟩
      rw [hlb]
      refine hK _ _ ⟨lb, rfl⟩ ?_
      clear hK K hlb
      refine wpAnyH_two (i := 2) (j := 5) (by kernel_rfl) rfl rfl (fun K hK => ?_) (fun K hK => ?_)
      · go_simp
        refine (CP _).mono ?_
        rintro e wz ⟨rfl, hbz⟩
        replace hcell := cell_below hbz hcell
        obtain ⟨lz, rfl⟩ : ∃ p : LaterOf w1, wz = p.world := ⟨⟨wz, below_chain lb.below hbz lb.below.size⟩, rfl⟩
        refine hK _ _ ⟨lz, rfl⟩ ?_
        clear hK K hbz
        (refine wpAnyH_one (i := 5) (by kernel_rfl) rfl (fun K hK => ?_); go_simp; refine hK _ _ ⟨_, rfl⟩ ?_; clear hK K)
        (refine wpAnyH_one (i := 6) (by kernel_rfl) rfl (fun K hK => ?_); go_simp; refine hK _ _ ⟨_, rfl⟩ ?_; clear hK K)
        (refine wpAnyH_one (i := 9) (by kernel_rfl) rfl (fun K hK => ?_); go_simp; refine hK _ _ ⟨_, rfl⟩ ?_; clear hK K)
        (refine wpAnyH_one (i := 10) (by kernel_rfl) rfl (fun K hK => ?_); go_simp; refine hK _ _ ⟨_, rfl⟩ ?_; clear hK K)
        (refine wpAnyH_done (by kernel_rfl) ?_ _)
        go_wp2
        go_ret
        exact ⟨rfl, below_chain HB1.out lz.below HB1.out.size⟩
      · go_simp
        refine hK _ _ ⟨lb, rfl⟩ ?_
        clear hK K
        refine wpAnyH_one (i := 2) (by kernel_rfl) rfl (fun K hK => ?_)
        go_simp
        refine (CP _).mono ?_
        rintro e wz ⟨rfl, hbz⟩
        obtain ⟨lz, rfl⟩ : ∃ p : LaterOf w1, wz = p.world := ⟨⟨wz, below_chain lb.below hbz lb.below.size⟩, rfl⟩
        refine hK _ _ ⟨lz, rfl⟩ ?_
        clear hK K hbz
        (refine wpAnyH_one (i := 6) (by kernel_rfl) rfl (fun K hK => ?_); go_simp; refine hK _ _ ⟨_, rfl⟩ ?_; clear hK K)
        (refine wpAnyH_one (i := 9) (by kernel_rfl) rfl (fun K hK => ?_); go_simp; refine hK _ _ ⟨_, rfl⟩ ?_; clear hK K)
        (refine wpAnyH_one (i := 10) (by kernel_rfl) rfl (fun K hK => ?_); go_simp; refine hK _ _ ⟨_, rfl⟩ ?_; clear hK K)
        (refine wpAnyH_done (by kernel_rfl) ?_ _)
        go_wp2
        go_ret
        exact ⟨rfl, below_chain HB1.out lz.below HB1.out.size⟩
  | false =>
    rw [if_neg (by simp)] at hkv
    go_upto_region 4 with fail
    clear z0 z1 z2 z3
    (refine wp_held (by kernel_rfl) ?_; intro lw)
    (refine wpAnyH_take (i := 0) (v := ?_) rfl (by kernel_rfl) (by kernel_rfl) (by kernel_rfl) (fun _ _ _ h => h) (Or.inl ⟨by rfl, ?_⟩) ⟨_, rfl⟩ ?_; rotate_left; (intro w9 hS9; obtain ⟨p9, hp9⟩ := hS9; subst hp9; go_simp; try with_reducible rfl))
    (refine wpAnyH_take (i := 1) (v := ?_) rfl (by kernel_rfl) (by kernel_rfl) (by kernel_rfl) (fun _ _ _ h => h) (Or.inl ⟨by rfl, ?_⟩) ⟨_, rfl⟩ ?_; rotate_left; (intro w9 hS9; obtain ⟨p9, hp9⟩ := hS9; subst hp9; go_simp; try with_reducible rfl))
    (refine wpAnyH_take (i := 3) (v := ?_) rfl (by kernel_rfl) (by kernel_rfl) (by kernel_rfl) (fun _ _ _ h => h) (Or.inl ⟨by rfl, ?_⟩) ⟨_, rfl⟩ ?_; rotate_left; (intro w9 hS9; obtain ⟨p9, hp9⟩ := hS9; subst hp9; go_simp; try with_reducible rfl))
    (refine wpAnyH_take (i := 7) (v := ?_) rfl (by kernel_rfl) (by kernel_rfl) (by kernel_rfl) (fun _ _ _ h => h) (Or.inl ⟨by rfl, ?_⟩) ⟨_, rfl⟩ ?_; rotate_left; (intro w9 hS9; obtain ⟨p9, hp9⟩ := hS9; subst hp9; go_simp; try with_reducible rfl))
    (refine wpAnyH_take (i := 8) (v := ?_) rfl (by kernel_rfl) (by kernel_rfl) (by kernel_rfl) (fun _ _ _ h => h) (Or.inl ⟨by rfl, ?_⟩) ⟨_, rfl⟩ ?_; rotate_left; (intro w9 hS9; obtain ⟨p9, hp9⟩ := hS9; subst hp9; go_simp; try with_reducible rfl))
    refine wpAnyH_two (i := 2) (j := 4) (by kernel_rfl) rfl rfl (fun K hK => ?_) (fun K hK => ?_)
    · go_simp
      refine (CP _).mono ?_
      rintro e wz ⟨rfl, hbz⟩
      obtain ⟨lz, rfl⟩ : ∃ p : LaterOf w1, wz = p.world := ⟨⟨wz, below_chain lw.below hbz lw.below.size⟩, rfl⟩
      refine hK _ _ ⟨lz, rfl⟩ ?_
      clear hK K hbz
      refine wpAnyH_one (i := 4) (by kernel_rfl) rfl (fun K hK => ?_)
      go_simp
      obtain ⟨lb, hlb, hcell⟩ : ∃ p : LaterOf w1, lz.world.alloc (.cells #[.int .u8 ek] 5) = p.world ∧ p.world.cell? ⟨lz.world.heap.size, 0, none⟩ = some (.int .u8 ek) :=
        ⟨⟨_, lz.below.alloc lz.below.size _⟩, rfl, cell_new _ _ _ _ rfl⟩
      rw [hlb]
      refine hK _ _ ⟨lb, rfl⟩ ?_
      clear hK K hlb
      (refine wpAnyH_one (i := 5) (by kernel_rfl) rfl (fun K hK => ?_); go_simp; refine hK _ _ ⟨_, rfl⟩ ?_; clear hK K)
      (refine wpAnyH_one (i := 6) (by kernel_rfl) rfl (fun K hK => ?_); go_simp; refine hK _ _ ⟨_, rfl⟩ ?_; clear hK K)
      (refine wpAnyH_one (i := 9) (by kernel_rfl) rfl (fun K hK => ?_); go_simp; refine hK _ _ ⟨_, rfl⟩ ?_; clear hK K)
      (refine wpAnyH_one (i := 10) (by kernel_rfl) rfl (fun K hK => ?_); go_simp; refine hK _ _ ⟨_, rfl⟩ ?_; clear hK K)
      (refine wpAnyH_done (by kernel_rfl) ?_ _)
      go_wp2
      go_ret
      exact ⟨rfl, below_chain HB1.out lb.below HB1.out.size⟩
    · go_simp
      obtain ⟨lb, hlb, hcell⟩ : ∃ p : LaterOf w1, lw.world.alloc (.cells #[.int .u8 ek] 5) = p.world ∧ p.world.cell? ⟨lw.world.heap.size, 0, none⟩ = some (.int .u8 ek) :=
        ⟨⟨_, lw.below.alloc lw.below.size _⟩, rfl, cell_new _ _ _ _ rfl⟩
      rw [hlb]
      refine hK _ _ ⟨lb, rfl⟩ ?_
      clear hK K hlb
      refine wpAnyH_two (i := 2) (j := 5) (by kernel_rfl) rfl rfl (fun K hK => ?_) (fun K hK => ?_)
      · go_simp
        refine (CP _).mono ?_
        rintro e wz ⟨rfl, hbz⟩
        replace hcell := cell_below hbz hcell
        obtain ⟨lz, rfl⟩ : ∃ p : LaterOf w1, wz = p.world := ⟨⟨wz, below_chain lb.below hbz lb.below.size⟩, rfl⟩
        refine hK _ _ ⟨lz, rfl⟩ ?_
        clear hK K hbz
        (refine wpAnyH_one (i := 5) (by kernel_rfl) rfl (fun K hK => ?_); go_simp; refine hK _ _ ⟨_, rfl⟩ ?_; clear hK K)
        (refine wpAnyH_one (i := 6) (by kernel_rfl) rfl (fun K hK => ?_); go_simp; refine hK _ _ ⟨_, rfl⟩ ?_; clear hK K)
        (refine wpAnyH_one (i := 9) (by kernel_rfl) rfl (fun K hK => ?_); go_simp; refine hK _ _ ⟨_, rfl⟩ ?_; clear hK K)
        (refine wpAnyH_one (i := 10) (by kernel_rfl) rfl (fun K hK => ?_); go_simp; refine hK _ _ ⟨_, rfl⟩ ?_; clear hK K)
        (refine wpAnyH_done (by kernel_rfl) ?_ _)
        go_wp2
        go_ret
        exact ⟨rfl, below_chain HB1.out lz.below HB1.out.size⟩
      · go_simp
        refine hK _ _ ⟨lb, rfl⟩ ?_
        clear hK K
        refine wpAnyH_one (i := 2) (by kernel_rfl) rfl (fun K hK => ?_)
        go_simp
        refine (CP _).mono ?_
        rintro e wz ⟨rfl, hbz⟩
        obtain ⟨lz, rfl⟩ : ∃ p : LaterOf w1, wz = p.world := ⟨⟨wz, below_chain lb.below hbz lb.below.size⟩, rfl⟩
        refine hK _ _ ⟨lz, rfl⟩ ?_
        clear hK K hbz
        (refine wpAnyH_one (i := 6) (by kernel_rfl) rfl (fun K hK => ?_); go_simp; refine hK _ _ ⟨_, rfl⟩ ?_; clear hK K)
        (refine wpAnyH_one (i := 9) (by kernel_rfl) rfl (fun K hK => ?_); go_simp; refine hK _ _ ⟨_, rfl⟩ ?_; clear hK K)
        (refine wpAnyH_one (i := 10) (by kernel_rfl) rfl (fun K hK => ?_); go_simp; refine hK _ _ ⟨_, rfl⟩ ?_; clear hK K)
        (refine wpAnyH_done (by kernel_rfl) ?_ _)
        go_wp2
        go_ret
        exact ⟨rfl, below_chain HB1.out lz.below HB1.out.size⟩

set_option maxHeartbeats 8000000 in
set_option maxRecDepth 100000 in
theorem plistp_walk (v : Value) (l : List Prt) (w : World) (hr : PrtRow w v l) (hl : l.length ≤ 1100) (hok : ∀ x ∈ l, partOk x = true) :
    Calls Tryz.prog 95 #[v, .func (.func 96) #[] #[]] w fun e w' => e = .returned (S (putV l.length ++ l.flatMap partW)) ∧ Below w.heap.size w w' := by
  have hfr := Lib.fresh_isBuilder 150 5 w
  obtain ⟨w1, hw1, hb1, hz1⟩ : ∃ w1, w1 = w.alloc (.cells #[.pointer none, .slice none 0 0] 150) ∧ Below w.heap.size w w1 ∧ IsBld w.heap.size w.heap.size [] w1 :=
    ⟨_, rfl, (Below.refl _ _).alloc (Nat.le_refl _) _, hfr⟩
  have HR := Lib.hid hr
  have HOK := Lib.hid hok
  have hwl : ∀ x ∈ l, (partW x).length ≤ 42 := fun x hx => partW_len (hok x hx)
  have HWL := Lib.hid hwl
  have CP := pput_walk l.length w1 (by omega)
  have hpv := putV_len (n := l.length) (by omega)
  have hpv0 : 0 < (putV l.length).length := putV_pos _
  obtain ⟨pv, hpve⟩ : ∃ pv, putV l.length = pv := ⟨_, rfl⟩
  rw [hpve] at CP hpv hpv0 ⊢
  have hlw : IntKind.u64.wrap (l.length : Int) = (l.length : Int) := by simp only [IntKind.wrap, IntKind.bits, IntKind.signed]; simp; omega
  obtain ⟨a, c, rfl⟩ := row_slice hr
  have HB1 := Lib.hid hb1
  have HZ1 := Lib.hid hz1
  clear hfr hb1 hz1 hr hok hwl hpve
  go_enter Tryz.func95, Tryz.ntmps95
  go_upto_region 2 with fail
  rw [← hw1]
  clear hw1
  go_wp2_with fail
  refine CP.mono ?_
  rintro e w2 ⟨rfl, hb2⟩
  have HB2 := Lib.hid (below_chain HB1.out hb2 HB1.out.size)
  have CW := wstr_walk w.heap.size w.heap.size [] pv w2 (bld_on HZ1.out hb2) (by simp) (by omega) hpv0 HB2.out.size
  clear CP hb2
  go_wp2_with fail
  refine CW.mono ?_
  rintro e w3 ⟨⟨q, rfl⟩, hbld, hb3⟩
  have HB3 := Lib.hid (HB2.out.trans hb3)
  have HBL3 : Hid (IsBld w.heap.size w.heap.size (pv ++ (l.take 0).flatMap partW) w3) := Lib.hid (by simpa using hbld)
  clear CW hbld hb3
  go_wp2
  go_loopw [15] (fun i wr => ∃ k : Nat, k ≤ l.length ∧ i = .int .i64 k ∧ IsBld w.heap.size w.heap.size (pv ++ (l.take k).flatMap partW) wr ∧ Below w.heap.size w wr) (fun i _ => l.length - (intOf i).toNat)
  case atStart => exact ⟨0, Nat.zero_le _, rfl, HBL3.out, HB3.out⟩
  case round =>
    obtain ⟨k, hk, rfl, hbl, hB⟩ := hrel
    have hfl := flat_take_len HWL.out hk
    by_cases h1 : k < l.length
    · have h1' : (k : Int) < (l.length : Int) := by omega
      obtain ⟨a0, c0, hv, -, -, hx⟩ := HR.out
      obtain ⟨g1, g2⟩ : a = a0 ∧ c = c0 := by cases hv; exact ⟨rfl, rfl⟩
      subst g1 g2
      clear hv
      rcases hx with hx | ⟨b, o, rfl, hx⟩
      · exfalso; rw [hx] at h1; simp at h1
      obtain ⟨hc1, hc2⟩ := prt_cells hx h1
      replace hc1 := cell_below hB hc1
      replace hc2 := cell_below hB hc2
      have HST := Lib.hid (flat_step (f := partW) h1)
      have hok := HOK.out _ (List.getElem_mem h1)
      have hwk := HWL.out _ (List.getElem_mem h1)
      clear hx
      generalize hT : pv ++ (l.take k).flatMap partW = T at *
      have hTl : T.length ≤ 10 + 42 * 1100 := by rw [← hT, List.length_append]; omega
      generalize l[k] = y at *
      obtain ⟨key, sz⟩ := y
      simp only at hc1 hc2
      unfold partOk at hok
      simp only [Bool.and_eq_true, beq_iff_eq, decide_eq_true_eq] at hok
      obtain ⟨N, rfl⟩ : ∃ N : Nat, sz = (N : Int) := ⟨sz.toNat, by omega⟩
      have CE := fun W => partbytes_walk key N W (by omega) (by omega)
      have hyw0 : 0 < (partW (key, (N : Int))).length := by show 0 < (key ++ putV N).length; rw [List.length_append]; omega
      generalize partW (key, (N : Int)) = yw at *
      have HV := Lib.hid (show pv ++ (l.take (k + 1)).flatMap partW = T ++ yw by rw [HST.out, ← hT]; simp)
      have CS := fun (W : World) hWb (hW : w.heap.size ≤ W.heap.size) => wstr_walk w.heap.size w.heap.size T yw W hWb (by omega) (by omega) hyw0 hW
      have HBL := Lib.hid hbl
      have HB := Lib.hid hB
      clear hT HST hbl hB hok
      obtain ⟨w5, hw5, hb5⟩ : ∃ w5, w5 = wr.alloc (.cells #[S key, .int .i64 (N : Int)] 65) ∧ Below wr.heap.size wr w5 := ⟨_, rfl, (Below.refl _ _).alloc (Nat.le_refl _) _⟩
      have HB5 := Lib.hid (below_chain HB.out hb5 HB.out.size)
      have HBL5 := Lib.hid (bld_on HBL.out hb5)
      have hz5 : w5.heap[wr.heap.size]? = some (.cells #[S key, .int .i64 (N : Int)] 65 (0, 0)) := by rw [hw5]; exact heap_alloc_new _ _
      clear hb5
      go_upto_region 6 with fail
      rw [← hw5]
      clear hw5 hc1 hc2
      obtain ⟨⟨z0, z1⟩, -, -⟩ := box2 hz5
      go_wp2_with fail
      refine (CE w5).mono ?_
      rintro e w6 ⟨rfl, hb6⟩
      have HB6 := Lib.hid (below_chain HB5.out hb6 HB5.out.size)
      have CS6 := CS w6 (bld_on HBL5.out hb6) HB6.out.size
      clear CE CS hb6 z0 z1 hz5
      go_wp2_with fail
      refine CS6.mono ?_
      rintro e w7 ⟨⟨q7, rfl⟩, hbl7, hb7⟩
      have HBL7 : Hid (IsBld w.heap.size w.heap.size (pv ++ (l.take (k + 1)).flatMap partW) w7) := Lib.hid (by rw [HV.out]; exact hbl7)
      have HB7 := Lib.hid (HB6.out.trans hb7)
      clear hbl7 hb7 CS6
      go_wp2
      go_roundw
      case rel => exact ⟨k + 1, by omega, by go_num, HBL7.out, HB7.out⟩
      case measure => simp [intOf]; omega
    · have h1' : ¬ (k : Int) < (l.length : Int) := by omega
      obtain rfl : k = l.length := by omega
      rw [List.take_of_length_le (Nat.le_refl _)] at hbl
      have CS := bstring_walk w.heap.size w.heap.size _ wr hbl hB.size
      have HB := Lib.hid hB
      clear hbl hB h1
      go_wp2_with fail
      refine CS.mono ?_
      rintro e w4 ⟨rfl, hb4⟩
      have HB4 := Lib.hid (HB.out.trans hb4)
      clear hb4 CS
      go_wp2
      go_ret
      exact ⟨rfl, HB4.out⟩

set_option maxHeartbeats 8000000 in
set_option maxRecDepth 100000 in
theorem pliste_walk (v : Value) (l : List Ent) (w : World) (hr : EntRow w v l) (hl : l.length ≤ 1100) (hok : ∀ x ∈ l, entOk x = true) :
    Calls Tryz.prog 97 #[v, .func (.func 98) #[] #[]] w fun e w' => e = .returned (S (putV l.length ++ l.flatMap entW)) ∧ Below w.heap.size w w' := by
  have hfr := Lib.fresh_isBuilder 150 5 w
  obtain ⟨w1, hw1, hb1, hz1⟩ : ∃ w1, w1 = w.alloc (.cells #[.pointer none, .slice none 0 0] 150) ∧ Below w.heap.size w w1 ∧ IsBld w.heap.size w.heap.size [] w1 :=
    ⟨_, rfl, (Below.refl _ _).alloc (Nat.le_refl _) _, hfr⟩
  have HR := Lib.hid hr
  have HOK := Lib.hid hok
  have hwl : ∀ x ∈ l, (entW x).length ≤ 74 := fun x hx => entW_len (hok x hx)
  have HWL := Lib.hid hwl
  have CP := pput_walk l.length w1 (by omega)
  have hpv := putV_len (n := l.length) (by omega)
  have hpv0 : 0 < (putV l.length).length := putV_pos _
  obtain ⟨pv, hpve⟩ : ∃ pv, putV l.length = pv := ⟨_, rfl⟩
  rw [hpve] at CP hpv hpv0 ⊢
  have hlw : IntKind.u64.wrap (l.length : Int) = (l.length : Int) := by simp only [IntKind.wrap, IntKind.bits, IntKind.signed]; simp; omega
  obtain ⟨a, c, rfl⟩ := row_slice hr
  have HB1 := Lib.hid hb1
  have HZ1 := Lib.hid hz1
  clear hfr hb1 hz1 hr hok hwl hpve
  go_enter Tryz.func97, Tryz.ntmps97
  go_upto_region 2 with fail
  rw [← hw1]
  clear hw1
  go_wp2_with fail
  refine CP.mono ?_
  rintro e w2 ⟨rfl, hb2⟩
  have HB2 := Lib.hid (below_chain HB1.out hb2 HB1.out.size)
  have CW := wstr_walk w.heap.size w.heap.size [] pv w2 (bld_on HZ1.out hb2) (by simp) (by omega) hpv0 HB2.out.size
  clear CP hb2
  go_wp2_with fail
  refine CW.mono ?_
  rintro e w3 ⟨⟨q, rfl⟩, hbld, hb3⟩
  have HB3 := Lib.hid (HB2.out.trans hb3)
  have HBL3 : Hid (IsBld w.heap.size w.heap.size (pv ++ (l.take 0).flatMap entW) w3) := Lib.hid (by simpa using hbld)
  clear CW hbld hb3
  go_wp2
  go_loopw [15] (fun i wr => ∃ k : Nat, k ≤ l.length ∧ i = .int .i64 k ∧ IsBld w.heap.size w.heap.size (pv ++ (l.take k).flatMap entW) wr ∧ Below w.heap.size w wr) (fun i _ => l.length - (intOf i).toNat)
  case atStart => exact ⟨0, Nat.zero_le _, rfl, HBL3.out, HB3.out⟩
  case round =>
    obtain ⟨k, hk, rfl, hbl, hB⟩ := hrel
    have hfl := flat_take_len HWL.out hk
    by_cases h1 : k < l.length
    · have h1' : (k : Int) < (l.length : Int) := by omega
      obtain ⟨a0, c0, hv, -, -, hx⟩ := HR.out
      obtain ⟨g1, g2⟩ : a = a0 ∧ c = c0 := by cases hv; exact ⟨rfl, rfl⟩
      subst g1 g2
      clear hv
      rcases hx with hx | ⟨b, o, rfl, hx⟩
      · exfalso; rw [hx] at h1; simp at h1
      obtain ⟨hc1, hc2, hc3, hc4⟩ := ent_cells hx h1
      replace hc1 := cell_below hB hc1
      replace hc2 := cell_below hB hc2
      replace hc3 := cell_below hB hc3
      replace hc4 := cell_below hB hc4
      have HST := Lib.hid (flat_step (f := entW) h1)
      have hok := HOK.out _ (List.getElem_mem h1)
      have hwk := HWL.out _ (List.getElem_mem h1)
      clear hx
      generalize hT : pv ++ (l.take k).flatMap entW = T at *
      have hTl : T.length ≤ 10 + 74 * 1100 := by rw [← hT, List.length_append]; omega
      generalize l[k] = y at *
      obtain ⟨nm, ek, ex, key⟩ := y
      simp only at hc1 hc2 hc3 hc4
      have hoks : (ek = 2 ∨ ek = 3) ∧ key.length ≤ 32 ∧ nm.length ≤ 31 := by
        unfold entOk at hok
        simp only [Bool.and_eq_true, Bool.or_eq_true, beq_iff_eq] at hok
        exact ⟨hok.1.elim .inl (fun h => .inr h.1), Nat.le_of_eq hok.2.1, nameB_len hok.2.2⟩
      obtain ⟨hek, hkl, hnl⟩ := hoks
      have CE := fun W => entrybytes_walk nm key ek ex W hnl hkl hek
      have hyw0 : 0 < (entW (nm, ek, ex, key)).length := by show 0 < (putText nm ++ [kindW (nm, ek, ex, key)] ++ key).length; simp only [List.length_append, List.length_cons]; omega
      generalize entW (nm, ek, ex, key) = yw at *
      have HV := Lib.hid (show pv ++ (l.take (k + 1)).flatMap entW = T ++ yw by rw [HST.out, ← hT]; simp)
      have CS := fun (W : World) hWb (hW : w.heap.size ≤ W.heap.size) => wstr_walk w.heap.size w.heap.size T yw W hWb (by omega) (by omega) hyw0 hW
      have HBL := Lib.hid hbl
      have HB := Lib.hid hB
      clear hT HST hbl hB hok
      obtain ⟨w5, hw5, hb5⟩ : ∃ w5, w5 = wr.alloc (.cells #[S nm, .int .i64 ek, .bool ex, S key] 69) ∧ Below wr.heap.size wr w5 := ⟨_, rfl, (Below.refl _ _).alloc (Nat.le_refl _) _⟩
      have HB5 := Lib.hid (below_chain HB.out hb5 HB.out.size)
      have HBL5 := Lib.hid (bld_on HBL.out hb5)
      have hz5 : w5.heap[wr.heap.size]? = some (.cells #[S nm, .int .i64 ek, .bool ex, S key] 69 (0, 0)) := by rw [hw5]; exact heap_alloc_new _ _
      clear hb5
      go_upto_region 6 with fail
      rw [← hw5]
      clear hw5 hc1 hc2 hc3 hc4
      obtain ⟨⟨z0, z1, z2, z3⟩, -, -⟩ := box4 hz5
      go_wp2_with fail
      refine (CE w5).mono ?_
      rintro e w6 ⟨rfl, hb6⟩
      have HB6 := Lib.hid (below_chain HB5.out hb6 HB5.out.size)
      have CS6 := CS w6 (bld_on HBL5.out hb6) HB6.out.size
      clear CE CS hb6 z0 z1 z2 z3 hz5
      go_wp2_with fail
      refine CS6.mono ?_
      rintro e w7 ⟨⟨q7, rfl⟩, hbl7, hb7⟩
      have HBL7 : Hid (IsBld w.heap.size w.heap.size (pv ++ (l.take (k + 1)).flatMap entW) w7) := Lib.hid (by rw [HV.out]; exact hbl7)
      have HB7 := Lib.hid (HB6.out.trans hb7)
      clear hbl7 hb7 CS6
      go_wp2
      go_roundw
      case rel => exact ⟨k + 1, by omega, by go_num, HBL7.out, HB7.out⟩
      case measure => simp [intOf]; omega
    · have h1' : ¬ (k : Int) < (l.length : Int) := by omega
      obtain rfl : k = l.length := by omega
      rw [List.take_of_length_le (Nat.le_refl _)] at hbl
      have CS := bstring_walk w.heap.size w.heap.size _ wr hbl hB.size
      have HB := Lib.hid hB
      clear hbl hB h1
      go_wp2_with fail
      refine CS.mono ?_
      rintro e w4 ⟨rfl, hb4⟩
      have HB4 := Lib.hid (HB.out.trans hb4)
      clear hb4 CS
      go_wp2
      go_ret
      exact ⟨rfl, HB4.out⟩

set_option maxHeartbeats 8000000 in
set_option maxRecDepth 100000 in
/-- the program's bytes of a node. -/
theorem pwrite11_walk (vp ve : Value) (n : Nod) (w : World) (hr : NodRow w n vp ve) (hd : n.data.length ≤ 1100000) (hp : n.parts.length ≤ 1100000) (he : n.ents.length ≤ 1100000) (hnl : ∀ e ∈ n.ents, e.1.length ≤ 1100000) :
    Calls Tryz.prog 75 #[NodV n vp ve] w fun e w' => e = .returned (S (writeN n)) ∧ Below w.heap.size w w' := by
  obtain ⟨w1, hw1, hB1, hz⟩ : ∃ w1, w1 = w.alloc (.cells #[.int .i64 n.kind, S n.data, vp, ve] 40) ∧ Below w.heap.size w w1 ∧ w1.heap[w.heap.size]? = some (.cells #[.int .i64 n.kind, S n.data, vp, ve] 40 (0, 0)) :=
    ⟨_, rfl, (Below.refl _ _).alloc (Nat.le_refl _) _, heap_alloc_new _ _⟩
  have hr1 := hr.below hB1
  have CF := pfit11_walk vp ve n w1 hr1 hd hp he hnl
  have HR1 := Lib.hid hr1
  have HW0 := Lib.hid (fun h : fitN n = false => (show writeN n = [] by unfold writeN; rw [h]; rfl))
  have HW1 := Lib.hid (fun h : fitN n = true => (show writeN n = UInt8.ofNat n.kind.toNat :: bodyN n by unfold writeN; rw [h]; rfl))
  have HFT := Lib.hid (fun h : fitN n = true => fitN_iff.1 h)
  obtain ⟨⟨z0, z1, z2, z3⟩, -, -⟩ := box4 hz
  obtain ⟨W0, hW0⟩ : ∃ W0, writeN n = W0 := ⟨_, rfl⟩
  rw [hW0] at HW0 HW1 ⊢
  clear hW0 hr hr1 hnl
  go_enter Tryz.func75, Tryz.ntmps75
  go_upto_region 1 with fail
  rw [← hw1]
  clear hw1
  cases hfb : fitN n with
  | false =>
    rw [hfb] at CF
    have HF := Lib.hid (HW0.out hfb)
    clear hfb
    go_wp2_with (go_at_call 93; refine (CF).mono ?_; rintro e w2 ⟨rfl, hb2⟩)
    go_ret
    exact ⟨by rw [HF.out]; rfl, below_chain hB1 hb2 hB1.size⟩
  | true =>
  rw [hfb] at CF
  have hft := HFT.out hfb
  have HWN := Lib.hid (HW1.out hfb)
  clear hfb HW0 HW1 HFT
  obtain ⟨kd, d, ps, es⟩ := n
  simp only at z0 z1 z2 z3 hz hd hp he CF HWN ⊢
  have HFT := Lib.hid hft
  clear hft
  go_wp2_with fail
  refine CF.mono ?_
  rintro e w2 ⟨rfl, hb2⟩
  have hz2 := (hb2.block _ (heap_lt hz)).trans hz
  have hB2 := below_chain hB1 hb2 hB1.size
  have HR2 := Lib.hid (HR1.out.below hb2)
  clear CF hz hB1 HR1 hb2 z0 z1 z2 z3
  have hks : kd = 1 ∨ kd = 2 ∨ kd = 3 := by
    rcases HFT.out with ⟨h, _⟩ | ⟨h, _⟩ | ⟨h, _⟩
    · exact .inl h
    · exact .inr (.inl h)
    · exact .inr (.inr h)
  obtain ⟨kb, hkb, hkc⟩ : ∃ kb : UInt8, UInt8.ofNat kd.toNat = kb ∧ IntKind.u8.wrap kd = ((kb.toNat : Nat) : Int) := ⟨_, rfl, by rcases hks with rfl | rfl | rfl <;> rfl⟩
  obtain ⟨w3, hw3, hz3, hB3, hc3, hb3⟩ : ∃ w3, w3 = w2.alloc (.cells #[.int .u8 ((kb.toNat : Nat) : Int)] 5) ∧ w3.heap[w.heap.size]? = some (.cells #[.int .i64 kd, S d, vp, ve] 40 (0, 0)) ∧ Below w.heap.size w w3 ∧ w3.cell? ⟨w2.heap.size, 0, none⟩ = some (.int .u8 ((kb.toNat : Nat) : Int)) ∧ Below w2.heap.size w2 w3 :=
    ⟨_, rfl, (((Below.refl _ _).alloc (Nat.le_refl _) _).block _ (heap_lt hz2)).trans hz2, hB2.alloc hB2.size _, cell_new _ _ _ _ rfl, (Below.refl _ _).alloc (Nat.le_refl _) _⟩
  have hcv := pconv1 1 kb w3 w2.heap.size hc3
  have HR3 := Lib.hid (HR2.out.below hb3)
  rw [hkb] at HWN
  clear hkb hb3 hc3 HR2
  obtain ⟨⟨z0, z1, z2, z3⟩, -, -⟩ := box4 hz2
  obtain ⟨⟨y0, y1, y2, y3⟩, -, -⟩ := box4 hz3
  have z0a := fun o => cell_old z0 o
  go_upto_region 4 with fail
  rw [← hw3, hcv]
  clear hw3 hcv z0a z0 z1 z2 z3 hz2 hB2
  simp only [Result.andThen]
  rw [Oper.upon_value]
  have HB3 := Lib.hid hB3
  clear hB3 hz3 hkc
  rcases hks with rfl | rfl | rfl
  · have hwn := HWN.out
    rw [show bodyN ⟨1, d, ps, es⟩ = d from rfl] at hwn
    have hcat : (⟨#[kb]⟩ : ByteArray) ++ (⟨d.toArray⟩ : ByteArray) = ⟨W0.toArray⟩ := by rw [hwn]; exact ba_cat [kb] d
    have hns : ¬ 9223372036854775807 < 1 + d.length := by omega
    clear hwn HWN HFT
    go_wp2
    go_ret
    exact ⟨rfl, HB3.out⟩
  · obtain ⟨hps, hpo⟩ : ps.length ≤ 1024 ∧ ∀ p ∈ ps, partOk p = true := by
      rcases HFT.out with ⟨h, _⟩ | ⟨_, _, _, h⟩ | ⟨h, _⟩
      · cases h
      · exact ⟨h.len, h.ok⟩
      · cases h
    have hwn := HWN.out
    rw [show bodyN ⟨2, d, ps, es⟩ = putV ps.length ++ ps.flatMap partW from rfl] at hwn
    have CL := plistp_walk vp ps w3 HR3.out.parts (by omega) hpo
    have hbl : (putV ps.length ++ ps.flatMap partW).length ≤ 100000 := by
      have h1 := putV_len (n := ps.length) (by omega)
      have h2 := flat_bound (f := partW) (B := 42) (l := ps) (fun x hx => partW_len (hpo x hx))
      rw [List.length_append]
      omega
    generalize putV ps.length ++ ps.flatMap partW = bd at *
    have hcat : (⟨#[kb]⟩ : ByteArray) ++ (⟨bd.toArray⟩ : ByteArray) = ⟨W0.toArray⟩ := by rw [hwn]; exact ba_cat [kb] bd
    have hns : ¬ 9223372036854775807 < 1 + bd.length := by omega
    clear hwn HWN HFT hpo
    go_wp2_with (go_at_call 95; refine (CL).mono ?_; rintro e w4 ⟨rfl, hb4⟩)
    go_ret
    exact ⟨rfl, below_chain HB3.out hb4 HB3.out.size⟩
  · obtain ⟨hes, heo⟩ : es.length ≤ 60 ∧ ∀ p ∈ es, entOk p = true := by
      rcases HFT.out with ⟨h, _⟩ | ⟨h, _⟩ | ⟨_, _, _, h⟩
      · cases h
      · cases h
      · exact ⟨h.len, h.ok⟩
    have hwn := HWN.out
    rw [show bodyN ⟨3, d, ps, es⟩ = putV es.length ++ es.flatMap entW from rfl] at hwn
    have CL := pliste_walk ve es w3 HR3.out.ents (by omega) heo
    have hbl : (putV es.length ++ es.flatMap entW).length ≤ 100000 := by
      have h1 := putV_len (n := es.length) (by omega)
      have h2 := flat_bound (f := entW) (B := 74) (l := es) (fun x hx => entW_len (heo x hx))
      rw [List.length_append]
      omega
    generalize putV es.length ++ es.flatMap entW = bd at *
    have hcat : (⟨#[kb]⟩ : ByteArray) ++ (⟨bd.toArray⟩ : ByteArray) = ⟨W0.toArray⟩ := by rw [hwn]; exact ba_cat [kb] bd
    have hns : ¬ 9223372036854775807 < 1 + bd.length := by omega
    clear hwn HWN HFT heo
    go_wp2_with (go_at_call 97; refine (CL).mono ?_; rintro e w4 ⟨rfl, hb4⟩)
    go_ret
    exact ⟨rfl, below_chain HB3.out hb4 HB3.out.size⟩

set_option maxHeartbeats 8000000 in
set_option maxRecDepth 100000 in
theorem pkey11_walk (vp ve : Value) (n : Nod) (w : World) (hr : NodRow w n vp ve) (hd : n.data.length ≤ 1100000) (hp : n.parts.length ≤ 1100000) (he : n.ents.length ≤ 1100000) (hnl : ∀ e ∈ n.ents, e.1.length ≤ 1100000) :
    Calls Tryz.prog 74 #[NodV n vp ve] w fun e w' => e = .returned (S (keyN n)) ∧ Below w.heap.size w w' := by
  obtain ⟨w1, hw1, hB1, hz⟩ : ∃ w1, w1 = w.alloc (.cells #[.int .i64 n.kind, S n.data, vp, ve] 40) ∧ Below w.heap.size w w1 ∧ w1.heap[w.heap.size]? = some (.cells #[.int .i64 n.kind, S n.data, vp, ve] 40 (0, 0)) :=
    ⟨_, rfl, (Below.refl _ _).alloc (Nat.le_refl _) _, heap_alloc_new _ _⟩
  have hr1 := hr.below hB1
  have CF := pfit11_walk vp ve n w1 hr1 hd hp he hnl
  have CW := fun W h => pwrite11_walk vp ve n W h hd hp he hnl
  have hwl := writeN_len (n := n)
  have HR1 := Lib.hid hr1
  have HK := Lib.hid (show keyN n = if fitN n = true then shaF (writeN n) else [] from rfl)
  obtain ⟨⟨z0, z1, z2, z3⟩, -, -⟩ := box4 hz
  generalize keyN n = kn at *
  generalize writeN n = wn at *
  clear hr hr1
  go_enter Tryz.func74, Tryz.ntmps74
  go_upto_region 1 with fail
  rw [← hw1]
  clear hw1
  go_wp2_with fail
  refine CF.mono ?_
  rintro e w2 ⟨rfl, hb2⟩
  have hz2 := (hb2.block _ (heap_lt hz)).trans hz
  have hB2 := below_chain hB1 hb2 hB1.size
  have CW2 := CW w2 (HR1.out.below hb2)
  obtain ⟨⟨y0, y1, y2, y3⟩, -, -⟩ := box4 hz2
  clear CF CW hz hB1 HR1 hb2 z0 z1 z2 z3 hz2
  cases hfb : fitN n with
  | false =>
    have hk := HK.out
    rw [hfb, if_neg (by simp)] at hk
    have HK2 := Lib.hid hk
    clear hk hfb HK
    go_wp2
    go_ret
    exact ⟨by rw [HK2.out]; rfl, hB2⟩
  | true =>
    have hk := HK.out
    rw [hfb, if_pos rfl] at hk
    have HK2 := Lib.hid hk
    have CS := fun W => psha_walk wn W (by omega)
    clear hk hfb HK
    go_wp2_with fail
    refine CW2.mono ?_
    rintro e w3 ⟨rfl, hb3⟩
    have HB3 := Lib.hid (below_chain hB2 hb3 hB2.size)
    clear CW2 hb3 hB2
    go_wp2_with fail
    refine (CS w3).mono ?_
    rintro e w4 ⟨rfl, hb4⟩
    have HB4 := Lib.hid (below_chain HB3.out hb4 HB3.out.size)
    clear hb4
    go_wp2
    go_ret
    exact ⟨by rw [HK2.out]; rfl, HB4.out⟩
end Go.Proofs.YtbmdoekfbkpaeaaGreatDoor
