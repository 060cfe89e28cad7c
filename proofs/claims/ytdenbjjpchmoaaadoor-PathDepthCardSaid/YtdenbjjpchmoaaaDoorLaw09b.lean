/- Chapter 9: the walks of the statements PathOrders, PathDepth, PathJoins, PathBack. -/
import Derived.Test.YtdenbjjpchmoaaaDoorLaw09
import Derived.Test.YtdenbjjpchmoaaaDoorJoin
namespace Go.Proofs.YtdenbjjpchmoaaaDoor
open Go.RowKit

theorem awake_wd {w0 w : World} (h : Wd w0 w) : Calls Tryd.prog 8 #[] w fun e w' => e = .returned (.bool true) ∧ Wd w0 w' :=
  (awake_walk w h.mx).mono fun _ _ ⟨he, hb⟩ => ⟨he, h.next hb⟩
theorem order_wd {w0 w : World} (h : Wd w0 w) (l m : List UInt8) (n : Int) (hn : orderL l m = n) (hl : l.length ≤ 1000000) (hm : m.length ≤ 1000000) :
    Calls Tryd.prog 18 #[S l, S m] w fun e w' => e = .returned (.int .i64 n) ∧ Wd w0 w' :=
  (order_walk l m w h.mx hl hm).mono fun _ _ ⟨he, hb⟩ => ⟨by rw [he, hn], h.next hb⟩
theorem fit_wd {w0 w : World} (h : Wd w0 w) (l : List UInt8) (n : Bool) (hn : fitB l = n) (hl : l.length ≤ 1000000) :
    Calls Tryd.prog 11 #[S l] w fun e w' => e = .returned (.bool n) ∧ Wd w0 w' :=
  (fit_walk l w h.mx hl).mono fun _ _ ⟨he, hb⟩ => ⟨by rw [he, hn], h.next hb⟩
theorem name_wd {w0 w : World} (h : Wd w0 w) (l : List UInt8) (n : Bool) (hn : nameB l = n) (hl : l.length ≤ 1000000) :
    Calls Tryd.prog 9 #[S l] w fun e w' => e = .returned (.bool n) ∧ Wd w0 w' :=
  (name_walk l w hl).mono fun _ _ ⟨he, hb⟩ => ⟨by rw [he, hn], h.next hb⟩
theorem dir_wd {w0 w : World} (h : Wd w0 w) (l : List UInt8) (n : List UInt8) (hn : dirL l = n) (hl : l.length ≤ 1000000) :
    Calls Tryd.prog 16 #[S l] w fun e w' => e = .returned (S n) ∧ Wd w0 w' :=
  (dir_walk l w h.mx hl).mono fun _ _ ⟨he, hb⟩ => ⟨by rw [he, hn], h.next hb⟩
theorem split_wd {w0 w : World} (h : Wd w0 w) (l : List UInt8) (sp : List (List UInt8)) (hn : splitL l = sp) (hl : l.length ≤ 1000000) :
    Calls Tryd.prog 14 #[S l] w fun e w' => ∃ v, e = .returned v ∧ StrRow w' v sp ∧ Wd w0 w' :=
  (split_walk l w h.mx hl).mono fun _ _ ⟨v, he, hr, _, hb⟩ => ⟨v, he, by rw [← hn]; exact hr, h.next hb⟩
theorem join_wd {w0 w : World} (h : Wd w0 w) (v : Value) (ns : List (List UInt8)) (n : List UInt8) (hn : joinL ns = n) (hr : StrRow w v ns) (hlen : ∀ p ∈ ns, p.length ≤ 1000000) (hcnt : ns.length ≤ 1000000) :
    Calls Tryd.prog 20 #[v] w fun e w' => e = .returned (S n) ∧ Wd w0 w' :=
  (join_walk v ns w hr hlen hcnt).mono fun _ _ ⟨he, hb⟩ => ⟨by rw [he, hn], h.next hb⟩

theorem S_below (a c : List UInt8) : ({ data := a.toArray } ++ { data := #[47] } ++ { data := c.toArray } : ByteArray) = ⟨(a ++ 47 :: c).toArray⟩ := by
  apply ByteArray.ext
  apply Array.ext'
  simp
theorem order_wdb {w0 w : World} (h : Wd w0 w) (l a c : List UInt8) (n : Int) (hn : orderL l (a ++ 47 :: c) = n) (hl : l.length ≤ 1000000) (hm : (a ++ 47 :: c).length ≤ 1000000) :
    Calls Tryd.prog 18 #[S l, .string ({ data := a.toArray } ++ { data := #[47] } ++ { data := c.toArray })] w fun e w' => e = .returned (.int .i64 n) ∧ Wd w0 w' := by
  rw [S_below]; exact order_wd h l _ n hn hl hm
theorem order_wda {w0 w : World} (h : Wd w0 w) (l a c : List UInt8) (n : Int) (hn : orderL (a ++ 47 :: c) l = n) (hl : l.length ≤ 1000000) (hm : (a ++ 47 :: c).length ≤ 1000000) :
    Calls Tryd.prog 18 #[.string ({ data := a.toArray } ++ { data := #[47] } ++ { data := c.toArray }), S l] w fun e w' => e = .returned (.int .i64 n) ∧ Wd w0 w' := by
  rw [S_below]; exact order_wd h _ l n hn hm hl

theorem orders_out {l m c : List UInt8} (h : (∃ t, m = l ++ 47 :: t) ∨ orderL (l ++ 47 :: c) m = -1) (hn : ¬ (({ data := m.toArray } : ByteArray).extract 0 (l.length + 1)).toList = (({ data := l.toArray } ++ { data := #[47] }) : ByteArray).toList) :
    orderL (l ++ 47 :: c) m = -1 := by
  rcases h with ⟨t, rfl⟩ | h
  · exfalso
    apply hn
    congr 1
    apply ByteArray.ext
    apply Array.ext'
    simp [List.take_append]
    exact List.take_of_length_le (by omega)
  · exact h
theorem orders_short {l m c : List UInt8} (h : (∃ t, m = l ++ 47 :: t) ∨ orderL (l ++ 47 :: c) m = -1) (hn : ¬ (l.length : Int) < (m.length : Int)) : orderL (l ++ 47 :: c) m = -1 := by
  rcases h with ⟨t, rfl⟩ | h
  · exfalso; apply hn; simp; omega
  · exact h

set_option maxHeartbeats 4000000 in
set_option maxRecDepth 100000 in
theorem orders_walk (l m c : List UInt8) (w : World) (hM : Mx w) :
    Calls Tryd.prog 4 #[S l, S m, S c] w fun e w' => e = .returned (.bool true) ∧ Below w.heap.size w w' := by
  have H0 := Wd.start hM
  by_cases h1 : (1000 : Int) < (l.length : Int)
  · go_enter Tryd.func4, Tryd.ntmps4
    go_wp2_with (go_at_call 8; refine (awake_wd H0).mono ?_; rintro e w1 ⟨rfl, hb⟩)
    go_ret
    exact ⟨rfl, hb.below⟩
  by_cases h2 : (1000 : Int) < (m.length : Int)
  · go_enter Tryd.func4, Tryd.ntmps4
    go_wp2_with (go_at_call 8; refine (awake_wd H0).mono ?_; rintro e w1 ⟨rfl, hb⟩)
    go_ret
    exact ⟨rfl, hb.below⟩
  by_cases h3 : (1000 : Int) < (c.length : Int)
  · go_enter Tryd.func4, Tryd.ntmps4
    go_wp2_with (go_at_call 8; refine (awake_wd H0).mono ?_; rintro e w1 ⟨rfl, hb⟩)
    go_ret
    exact ⟨rfl, hb.below⟩
  have hl : l.length ≤ 1000000 := by omega
  have hm : m.length ≤ 1000000 := by omega
  have hc : c.length ≤ 1000000 := by omega
  have hlc : (l ++ 47 :: c).length ≤ 1000000 := by simp; omega
  have e47 : l ++ [47] ++ c = l ++ 47 :: c := by simp
  rcases orderL_cases l m with hx | hx | hx
  · -- l stands ahead of m
    have hne : (l == m) = false := by rw [beq_eq_false_iff_ne]; rintro rfl; rw [orderL_self] at hx; cases hx
    have hy : orderL m l = 1 := by rw [orderL_anti, hx]; rfl
    have hbel := orderL_below l c
    have HX := Lib.hid hx
    have HY := Lib.hid hy
    have HB := Lib.hid hbel
    have HBT := Lib.hid (orderL_between c hx)
    clear hx hy hbel
    obtain ⟨z, hz⟩ : ∃ z, orderL m c = z := ⟨_, rfl⟩
    have HZ := Lib.hid hz
    have HAC := Lib.hid (fun h : z = -1 => orderL_trans HX.out (HZ.out.trans h))
    have hzc := orderL_cases m c
    rw [hz] at hzc
    clear hz
    go_enter Tryd.func4, Tryd.ntmps4
    go_wp2_with fail
    refine (order_wd H0 l m (-1) HX.out hl hm).mono ?_
    rintro e w1 ⟨rfl, H1⟩
    clear H0
    go_wp2_with fail
    refine (order_wd H1 m l 1 HY.out hm hl).mono ?_
    rintro e w2 ⟨rfl, H2⟩
    clear H1
    go_wp2_with fail
    refine (order_wd H2 m c z HZ.out hm hc).mono ?_
    rintro e w3 ⟨rfl, H3⟩
    clear H2
    rcases hzc with hz | hz
    · have HAC' := Lib.hid (HAC.out hz)
      subst hz
      go_wp2_with fail
      refine (order_wd H3 l c (-1) HAC'.out hl hc).mono ?_
      rintro e w4 ⟨rfl, H4⟩
      clear H3
      go_wp2_with fail
      refine (order_wdb H4 l l c (-1) HB.out hl hlc).mono ?_
      rintro e w5 ⟨rfl, H5⟩
      clear H4
      by_cases hlen : (l.length : Int) < (m.length : Int)
      · go_wp2_with fail
        all_goals first
          | (refine (order_wda H5 m l c (-1) (orders_out HBT.out (by assumption)) hm hlc).mono ?_
             rintro e w6 ⟨rfl, H6⟩
             clear H5
             go_wp2_with fail
             refine (awake_wd H6).mono ?_
             rintro e w7 ⟨rfl, H7⟩
             go_wp2
             go_ret
             exact ⟨rfl, H7.below⟩)
          | (have H6 := H5
             refine (awake_wd H6).mono ?_
             rintro e w7 ⟨rfl, H7⟩
             go_wp2
             go_ret
             exact ⟨rfl, H7.below⟩)
      · go_wp2_with fail
        refine (order_wda H5 m l c (-1) (orders_short HBT.out (by omega)) hm hlc).mono ?_
        rintro e w6 ⟨rfl, H6⟩
        clear H5
        go_wp2_with fail
        refine (awake_wd H6).mono ?_
        rintro e w7 ⟨rfl, H7⟩
        go_wp2
        go_ret
        exact ⟨rfl, H7.below⟩
    · have hz' : ¬ z < 0 := by omega
      clear hz
      go_wp2_with fail
      refine (order_wdb H3 l l c (-1) HB.out hl hlc).mono ?_
      rintro e w5 ⟨rfl, H5⟩
      clear H3
      by_cases hlen : (l.length : Int) < (m.length : Int)
      · go_wp2_with fail
        all_goals first
          | (refine (order_wda H5 m l c (-1) (orders_out HBT.out (by assumption)) hm hlc).mono ?_
             rintro e w6 ⟨rfl, H6⟩
             clear H5
             go_wp2_with fail
             refine (awake_wd H6).mono ?_
             rintro e w7 ⟨rfl, H7⟩
             go_wp2
             go_ret
             exact ⟨rfl, H7.below⟩)
          | (have H6 := H5
             refine (awake_wd H6).mono ?_
             rintro e w7 ⟨rfl, H7⟩
             go_wp2
             go_ret
             exact ⟨rfl, H7.below⟩)
      · go_wp2_with fail
        refine (order_wda H5 m l c (-1) (orders_short HBT.out (by omega)) hm hlc).mono ?_
        rintro e w6 ⟨rfl, H6⟩
        clear H5
        go_wp2_with fail
        refine (awake_wd H6).mono ?_
        rintro e w7 ⟨rfl, H7⟩
        go_wp2
        go_ret
        exact ⟨rfl, H7.below⟩
  · obtain rfl := orderL_eq hx
    have HX := Lib.hid hx
    have HB := Lib.hid (orderL_below l c)
    have hll : (l == l) = true := by simp
    clear hx
    go_enter Tryd.func4, Tryd.ntmps4
    go_wp2_with fail
    refine (order_wd H0 l l 0 HX.out hl hm).mono ?_
    rintro e w1 ⟨rfl, H1⟩
    clear H0
    go_wp2_with fail
    refine (order_wd H1 l l 0 HX.out hm hl).mono ?_
    rintro e w2 ⟨rfl, H2⟩
    clear H1
    go_wp2_with fail
    refine (order_wdb H2 l l c (-1) HB.out hl hlc).mono ?_
    rintro e w5 ⟨rfl, H6⟩
    clear H2
    go_wp2_with fail
    refine (awake_wd H6).mono ?_
    rintro e w7 ⟨rfl, H7⟩
    go_wp2
    go_ret
    exact ⟨rfl, H7.below⟩
  · have hne : (l == m) = false := by rw [beq_eq_false_iff_ne]; rintro rfl; rw [orderL_self] at hx; cases hx
    have hy : orderL m l = -1 := by rw [orderL_anti, hx]
    have HX := Lib.hid hx
    have HY := Lib.hid hy
    have HB := Lib.hid (orderL_below l c)
    clear hx hy
    go_enter Tryd.func4, Tryd.ntmps4
    go_wp2_with fail
    refine (order_wd H0 l m 1 HX.out hl hm).mono ?_
    rintro e w1 ⟨rfl, H1⟩
    clear H0
    go_wp2_with fail
    refine (order_wd H1 m l (-1) HY.out hm hl).mono ?_
    rintro e w2 ⟨rfl, H2⟩
    clear H1
    go_wp2_with fail
    refine (order_wdb H2 l l c (-1) HB.out hl hlc).mono ?_
    rintro e w5 ⟨rfl, H6⟩
    clear H2
    by_cases hlen : (l.length : Int) < (m.length : Int)
    · go_wp2_with fail
      all_goals
        refine (awake_wd H6).mono ?_
        rintro e w7 ⟨rfl, H7⟩
        go_wp2
        go_ret
        exact ⟨rfl, H7.below⟩
    · go_wp2_with fail
      refine (awake_wd H6).mono ?_
      rintro e w7 ⟨rfl, H7⟩
      go_wp2
      go_ret
      exact ⟨rfl, H7.below⟩
end Go.Proofs.YtdenbjjpchmoaaaDoor
